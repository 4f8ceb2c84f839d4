/- The conditions under which the functions printed here return, as propositions over typed values; each is the machine's own, by the generator's theorem. -/
import Derived.Test.YtioaaeianjgaoaaProg
import Derived.Test.YtioaaeianjgaoaaVcG
set_option linter.unusedVariables false
set_option maxRecDepth 100000
namespace Go.Proofs.Ytioaaeianjgaoaa.T
open Go Go.Proofs.Ytioaaeianjgaoaa.Vc
/-! depot/depotlaw05.TrailBegins -/
def V3 (a0 : Int) (a1 : Int) (w : World) (R : Value → World → Prop) : Prop :=
  cl Try.prog 9 [.int .i64 a0] w fun e5 w1 => ∃ x3 : Option Addr, ∃ x4 : Int, e5 = Ending.returned (.tuple #[.pointer x3, .int .i64 x4]) ∧
  pif (cond (decide (a0 < 0)) true (decide (a0 > 1048576))) (
    R (.bool (cond (Option.isNone x3) (x4 == 2) false)) w1) (
    pif (cond (Option.isNone x3) true (x4 != 0)) (
      R (.bool false) w1) (
      cl Try.prog 10 [.pointer x3] w1 fun e12 w2 => ∃ (x11 : Option Addr) (x11n x11c : Nat), e12 = Ending.returned (.slice x11 x11n x11c) ∧
      cl Try.prog 11 [.pointer x3] w2 fun e14 w3 => ∃ (x13 : Option Addr) (x13n x13c : Nat), e14 = Ending.returned (.slice x13 x13n x13c) ∧
      cl Try.prog 12 [.pointer x3, .int .i64 0] w3 fun e18 w4 => ∃ (x16 : Option Addr) (x16n x16c : Nat), ∃ x17 : Int, e18 = Ending.returned (.tuple #[.slice x16 x16n x16c, .int .i64 x17]) ∧
      gd (α := Int) (cond (cond (cond ((x11n : Int) == 0) ((x13n : Int) == 0) false) ((x16n : Int) == 0) false) (x17 == 0) false) (fun k20 =>
        cl Try.prog 13 [.pointer x3] w4 fun e22 w5 => ∃ x21 : Int, e22 = Ending.returned (.int .i64 x21) ∧
        k20 x21 w5) 0 w4 fun x23 w6 =>
      gd (α := Int) (cond (cond (cond (cond ((x11n : Int) == 0) ((x13n : Int) == 0) false) ((x16n : Int) == 0) false) (x17 == 0) false) (x23 == 0) false) (fun k24 =>
        cl Try.prog 14 [.pointer x3, .int .i64 a1] w6 fun e26 w7 => ∃ x25 : Int, e26 = Ending.returned (.int .i8 x25) ∧
        k24 x25 w7) 0 w6 fun x27 w8 =>
      gd (α := Int) (cond (cond (cond (cond (cond ((x11n : Int) == 0) ((x13n : Int) == 0) false) ((x16n : Int) == 0) false) (x17 == 0) false) (x23 == 0) false) (x27 == 0) false) (fun k28 =>
        cl Try.prog 15 [.pointer x3, .int .i64 a1] w8 fun e30 w9 => ∃ x29 : Int, e30 = Ending.returned (.int .i64 x29) ∧
        k28 x29 w9) 0 w8 fun x31 w10 =>
      gd (α := Int) (cond (cond (cond (cond (cond (cond ((x11n : Int) == 0) ((x13n : Int) == 0) false) ((x16n : Int) == 0) false) (x17 == 0) false) (x23 == 0) false) (x27 == 0) false) (x31 == (-1)) false) (fun k32 =>
        cl Try.prog 16 [.pointer x3, .int .i64 a1] w10 fun e34 w11 => ∃ x33 : Int, e34 = Ending.returned (.int .i64 x33) ∧
        k32 x33 w11) 0 w10 fun x35 w12 =>
      R (.bool (cond (cond (cond (cond (cond (cond (cond ((x11n : Int) == 0) ((x13n : Int) == 0) false) ((x16n : Int) == 0) false) (x17 == 0) false) (x23 == 0) false) (x27 == 0) false) (x31 == (-1)) false) (x35 == (-1)) false)) w12))
def An3 : An := .seq (.leaf) (.seq (.leaf) (.seq (.seq (.leaf) (.cond (.seq (.leaf) (.leaf)) (.leaf))) (.seq (.seq (.leaf) (.cond (.seq (.leaf) (.leaf)) (.leaf))) (.seq (.leaf) (.seq (.leaf) (.seq (.leaf) (.leaf)))))))
theorem V3_eq (a0 : Int) (a1 : Int) (w : World) (R : Value → World → Prop) : evF Try.prog Try.f3 An3 [.int .i64 a0, .int .i64 a1] w R = V3 a0 a1 w R := by kernel_rfl
theorem V3_calls (a0 : Int) (a1 : Int) (w : World) (R : Value → World → Prop) (h : V3 a0 a1 w R) : Calls Try.prog 3 #[.int .i64 a0, .int .i64 a1] w fun e w' => ∃ v, e = .returned v ∧ R v w' :=
  calls_of_ev (args := [.int .i64 a0, .int .i64 a1]) Try.func3 (Nat.le_of_ble_eq_true (by kernel_rfl)) (by rw [V3_eq]; exact h)
theorem ok3 : fnOk Try.prog 3 = true := by kernel_rfl

/-! depot/depotlaw05.TrailUndoes -/
def V4 (a0_0 : Int) (a0_1 : Option Addr) (a0_1n : Nat) (a0_1c : Nat) (a0_2 : Int) (a0_3 : Option Addr) (a0_3n : Nat) (a0_3c : Nat) (w : World) (R : Value → World → Prop) : Prop :=
  alc w [.int .i64 a0_0, .slice a0_1 a0_1n a0_1c, .int .i64 a0_2, .slice a0_3 a0_3n a0_3c] 37 fun b2 w1 =>
  ldI .i64 (World.drew w1) ((⟨b2, 0, none⟩ : Addr).add 0) fun x3 =>
  ldC (World.drew w1) ((⟨b2, 0, none⟩ : Addr).add 1) fun x4 x4n x4c =>
  ldI .i64 (World.drew w1) ((⟨b2, 0, none⟩ : Addr).add 0) fun x5 =>
  ldC (World.drew w1) ((⟨b2, 0, none⟩ : Addr).add 1) fun x6 x6n x6c =>
  cl Try.prog 17 [.int .i64 x3, .slice x4 x4n x4c] (World.drew w1) fun e8 w2 => ∃ x7 : Option Addr, e8 = Ending.returned (.pointer x7) ∧
  (
    ldC w2 ((⟨b2, 0, none⟩ : Addr).add 1) fun x9 x9n x9c =>
    ((.slice x9 x9n x9c : Value) = .slice x6 x6n x6c)) ∧
  (
    ldI .i64 w2 ((⟨b2, 0, none⟩ : Addr).add 0) fun x10 =>
    ((.int .i64 x10 : Value) = .int .i64 x5)) ∧
  cl Try.prog 17 [.int .i64 x5, .slice x6 x6n x6c] w2 fun e12 w3 => ∃ x11 : Option Addr, e12 = Ending.returned (.pointer x11) ∧
  pif (cond (Option.isNone x7) true (Option.isNone x11)) (
    R (.bool false) w3) (
    cl Try.prog 13 [.pointer x7] w3 fun e17 w4 => ∃ x16 : Int, e17 = Ending.returned (.int .i64 x16) ∧
    ldI .i64 w4 ((⟨b2, 0, none⟩ : Addr).add 2) fun x19 =>
    cl Try.prog 18 [.pointer x7, .int .i64 x19] w4 fun e21 w5 => ∃ x20 : Int, e21 = Ending.returned (.int .i64 x20) ∧
    pif (x20 != 0) (
      cl Try.prog 20 [.pointer x7] w5 fun e24 w6 => ∃ (x23 : Option Addr) (x23n x23c : Nat), e24 = Ending.returned (.slice x23 x23n x23c) ∧
      cl Try.prog 20 [.pointer x11] w6 fun e26 w7 => ∃ (x25 : Option Addr) (x25n x25c : Nat), e26 = Ending.returned (.slice x25 x25n x25c) ∧
      cl Try.prog 19 [.slice x23 x23n x23c, .slice x25 x25n x25c] w7 fun e28 w8 => ∃ x27 : Bool, e28 = Ending.returned (.bool x27) ∧
      gd (α := Bool) x27 (fun k29 =>
        cl Try.prog 21 [] w8 fun e31 w9 => ∃ x30 : Bool, e31 = Ending.returned (.bool x30) ∧
        k29 x30 w9) false w8 fun x32 w10 =>
      R (.bool (cond x27 x32 false)) w10) (
      cl Try.prog 13 [.pointer x7] w5 fun e35 w11 => ∃ x34 : Int, e35 = Ending.returned (.int .i64 x34) ∧
      gd (α := Int) (!(x34 != (IntKind.wrap .i64 (x16 + 1)))) (fun k36 =>
        ldI .i64 w11 ((⟨b2, 0, none⟩ : Addr).add 2) fun x37 =>
        k36 x37 w11) 0 w11 fun x38 w12 =>
      gd (α := Int) (!(x34 != (IntKind.wrap .i64 (x16 + 1)))) (fun k39 =>
        cl Try.prog 14 [.pointer x7, .int .i64 x38] w12 fun e41 w13 => ∃ x40 : Int, e41 = Ending.returned (.int .i8 x40) ∧
        k39 x40 w13) 0 w12 fun x42 w14 =>
      pif (cond (x34 != (IntKind.wrap .i64 (x16 + 1))) true (x42 != 1)) (
        R (.bool false) w14) (
        ldC w14 ((⟨b2, 0, none⟩ : Addr).add 3) fun x45 x45n x45c =>
        cl Try.prog 22 [.pointer x7, .slice x45 x45n x45c, .int .i64 (IntKind.wrap .i64 (x16 + 1))] w14 fun e46 w15 => e46 = Ending.returned (.tuple #[]) ∧
        cl Try.prog 10 [.pointer x7] w15 fun e49 w16 => ∃ (x48 : Option Addr) (x48n x48c : Nat), e49 = Ending.returned (.slice x48 x48n x48c) ∧
        cl Try.prog 10 [.pointer x11] w16 fun e51 w17 => ∃ (x50 : Option Addr) (x50n x50c : Nat), e51 = Ending.returned (.slice x50 x50n x50c) ∧
        cl Try.prog 12 [.pointer x7, .int .i64 x16] w17 fun e55 w18 => ∃ (x53 : Option Addr) (x53n x53c : Nat), ∃ x54 : Int, e55 = Ending.returned (.tuple #[.slice x53 x53n x53c, .int .i64 x54]) ∧
        pif (cond (cond (x54 != 0) true ((x53n : Int) == 0)) true ((x48n : Int) != (IntKind.wrap .i64 ((x50n : Int) + (x53n : Int))))) (
          R (.bool false) w18) (
          lp (σ := Int × Unit) (fun s61 w19 k60 => match s61 with
            | (v59, _) =>
            pif (decide (v59 < (x53n : Int))) (
              ixA x53 x53n v59 1 fun p63 =>
              ldI .i64 (World.drew w19) p63 fun x64 =>
              ixA x48 x48n (IntKind.wrap .i64 ((IntKind.wrap .i64 ((x48n : Int) - 1)) - v59)) 1 fun p65 =>
              ldI .i64 (World.drew w19) p65 fun x66 =>
              pif (x64 != x66) (
                R (.bool false) (World.drew w19)) (
                k60 ((IntKind.wrap .i64 (v59 + 1)), ()) (World.drew w19))) (
              ixA x53 x53n (IntKind.wrap .i64 ((x53n : Int) - 1)) 1 fun p69 =>
              ldI .i64 (World.drew w19) p69 fun x70 =>
              ldI .i64 (World.drew w19) ((⟨b2, 0, none⟩ : Addr).add 2) fun x71 =>
              gd (α := (Option Addr × Nat × Nat)) (x70 == x71) (fun k72 =>
                cl Try.prog 20 [.pointer x7] (World.drew w19) fun e74 w20 => ∃ (x73 : Option Addr) (x73n x73c : Nat), e74 = Ending.returned (.slice x73 x73n x73c) ∧
                k72 (x73, x73n, x73c) w20) (none, 0, 0) (World.drew w19) fun x75 w21 =>
              gd (α := (Option Addr × Nat × Nat)) (x70 == x71) (fun k76 =>
                cl Try.prog 20 [.pointer x11] w21 fun e78 w22 => ∃ (x77 : Option Addr) (x77n x77c : Nat), e78 = Ending.returned (.slice x77 x77n x77c) ∧
                k76 (x77, x77n, x77c) w22) (none, 0, 0) w21 fun x79 w23 =>
              gd (α := Bool) (x70 == x71) (fun k80 =>
                cl Try.prog 19 [.slice x75.1 x75.2.1 x75.2.2, .slice x79.1 x79.2.1 x79.2.2] w23 fun e82 w24 => ∃ x81 : Bool, e82 = Ending.returned (.bool x81) ∧
                k80 x81 w24) false w23 fun x83 w25 =>
              R (.bool (cond (x70 == x71) x83 false)) w25)) (0, ()) w18))))
def An4 : An := .seq (.leaf) (.seq (.draw [0, 1, 0, 4, 15, 0, 32, 0, 128, 511, 1023, 2047]) (.seq (.seq (.leaf) (.cond (.seq (.leaf) (.leaf)) (.leaf))) (.seq (.leaf) (.seq (.seq (.leaf) (.cond (.seq (.leaf) (.leaf)) (.leaf))) (.seq (.seq (.leaf) (.cond (.seq (.leaf) (.leaf)) (.leaf))) (.seq (.leaf) (.seq (.leaf) (.seq (.leaf) (.seq (.seq (.leaf) (.cond (.seq (.leaf) (.leaf)) (.leaf))) (.seq (.seq (.leaf) (.blk (.loop [(10, .one (.int .i64))] (.seq (.seq (.leaf) (.cond (.leaf) (.leaf))) (.seq (.blk (.seq (.draw [0, 0, 3, 7, 0, 0, 32, 96, 0, 480, 1008, 2032, 4095]) (.cond (.seq (.leaf) (.leaf)) (.leaf)))) (.leaf)))))) (.seq (.draw [0, 0, 2, 6, 15, 31, 0, 64, 255, 511, 1023, 2047, 1023, 8191, 16383, 32767, 65535]) (.leaf))))))))))))
theorem V4_eq (a0_0 : Int) (a0_1 : Option Addr) (a0_1n : Nat) (a0_1c : Nat) (a0_2 : Int) (a0_3 : Option Addr) (a0_3n : Nat) (a0_3c : Nat) (w : World) (R : Value → World → Prop) : evF Try.prog Try.f4 An4 [.agg #[.int .i64 a0_0, .slice a0_1 a0_1n a0_1c, .int .i64 a0_2, .slice a0_3 a0_3n a0_3c]] w R = V4 a0_0 a0_1 a0_1n a0_1c a0_2 a0_3 a0_3n a0_3c w R := by kernel_rfl
theorem V4_calls (a0_0 : Int) (a0_1 : Option Addr) (a0_1n : Nat) (a0_1c : Nat) (a0_2 : Int) (a0_3 : Option Addr) (a0_3n : Nat) (a0_3c : Nat) (w : World) (R : Value → World → Prop) (h : V4 a0_0 a0_1 a0_1n a0_1c a0_2 a0_3 a0_3n a0_3c w R) : Calls Try.prog 4 #[.agg #[.int .i64 a0_0, .slice a0_1 a0_1n a0_1c, .int .i64 a0_2, .slice a0_3 a0_3n a0_3c]] w fun e w' => ∃ v, e = .returned v ∧ R v w' :=
  calls_of_ev (args := [.agg #[.int .i64 a0_0, .slice a0_1 a0_1n a0_1c, .int .i64 a0_2, .slice a0_3 a0_3n a0_3c]]) Try.func4 (Nat.le_of_ble_eq_true (by kernel_rfl)) (by rw [V4_eq]; exact h)
theorem ok4 : fnOk Try.prog 4 = true := by kernel_rfl

/-! depot/depotlaw05.TrailStands -/
def V5 (a0 : Int) (a1 : Option Addr) (a1n : Nat) (a1c : Nat) (w : World) (R : Value → World → Prop) : Prop :=
  cl Try.prog 17 [.int .i64 a0, .slice a1 a1n a1c] w fun e4 w1 => ∃ x3 : Option Addr, e4 = Ending.returned (.pointer x3) ∧
  gd (α := Bool) (!(Option.isNone x3)) (fun k6 =>
    cl Try.prog 21 [] w1 fun e8 w2 => ∃ x7 : Bool, e8 = Ending.returned (.bool x7) ∧
    k6 x7 w2) false w1 fun x9 w3 =>
  pif (cond (Option.isNone x3) true (!x9)) (
    R (.bool false) w3) (
    cl Try.prog 10 [.pointer x3] w3 fun e13 w4 => ∃ (x12 : Option Addr) (x12n x12c : Nat), e13 = Ending.returned (.slice x12 x12n x12c) ∧
    cl Try.prog 11 [.pointer x3] w4 fun e15 w5 => ∃ (x14 : Option Addr) (x14n x14c : Nat), e15 = Ending.returned (.slice x14 x14n x14c) ∧
    cl Try.prog 13 [.pointer x3] w5 fun e18 w6 => ∃ x17 : Int, e18 = Ending.returned (.int .i64 x17) ∧
    pif (cond ((x14n : Int) != x17) true (decide ((x12n : Int) < (x14n : Int)))) (
      R (.bool false) w6) (
      lp (σ := Int × Int × Unit) (fun s25 w7 k24 => match s25 with
        | (v22, v23, _) =>
        pif (decide (v23 < (x12n : Int))) (
          ixA x12 x12n v23 1 fun p28 =>
          ldI .i64 w7 p28 fun x29 =>
          jn (σ := Int × Unit) (fun k32 =>
            pif (decide (x29 < 0)) (
              k32 ((IntKind.wrap .i64 (0 - x29)), ()) w7) (
              k32 (x29, ()) w7)) fun s33 w8 => match s33 with
          | (v31, _) =>
          jn (σ := Int × Unit) (fun k37 =>
            gd (α := Addr) (decide (v22 < (x14n : Int))) (fun k40 =>
              ixA x14 x14n v22 1 fun p41 =>
              k40 p41 w8) ⟨0, 0, none⟩ w8 fun x42 w10 =>
            gd (α := Int) (decide (v22 < (x14n : Int))) (fun k43 =>
              ldI .i64 w10 x42 fun x44 =>
              k43 x44 w10) 0 w10 fun x45 w11 =>
            pif (cond (decide (v22 < (x14n : Int))) (x45 == v23) false) (
              cl Try.prog 16 [.pointer x3, .int .i64 v31] w11 fun e49 w12 => ∃ x48 : Int, e49 = Ending.returned (.int .i64 x48) ∧
              pif (x48 != (-1)) (
                R (.bool false) w12) (
                k37 ((IntKind.wrap .i64 (v22 + 1)), ()) w12)) (
              cl Try.prog 16 [.pointer x3, .int .i64 v31] w11 fun e53 w13 => ∃ x52 : Int, e53 = Ending.returned (.int .i64 x52) ∧
              pif (decide (x52 < 0)) (
                R (.bool false) w13) (
                k37 (v22, ()) w13))) fun s38 w9 => match s38 with
          | (v36, _) =>
          cl Try.prog 14 [.pointer x3, .int .i64 x29] w9 fun e57 w14 => ∃ x56 : Int, e57 = Ending.returned (.int .i8 x56) ∧
          gd (α := Int) (!(x56 != 1)) (fun k58 =>
            cl Try.prog 14 [.pointer x3, .int .i64 (IntKind.wrap .i64 (0 - x29))] w14 fun e60 w15 => ∃ x59 : Int, e60 = Ending.returned (.int .i8 x59) ∧
            k58 x59 w15) 0 w14 fun x61 w16 =>
          gd (α := Int) (!(cond (x56 != 1) true (x61 != (-1)))) (fun k62 =>
            cl Try.prog 15 [.pointer x3, .int .i64 v31] w16 fun e64 w17 => ∃ x63 : Int, e64 = Ending.returned (.int .i64 x63) ∧
            k62 x63 w17) 0 w16 fun x65 w18 =>
          pif (cond (cond (x56 != 1) true (x61 != (-1))) true (x65 != v36)) (
            R (.bool false) w18) (
            lp (σ := Int × Unit) (fun s70 w19 k69 => match s70 with
              | (v68, _) =>
              pif (decide (v68 < v23)) (
                ixA x12 x12n v68 1 fun p73 =>
                ldI .i64 w19 p73 fun x74 =>
                gd (α := Addr) (!(x74 == x29)) (fun k75 =>
                  ixA x12 x12n v68 1 fun p76 =>
                  k75 p76 w19) ⟨0, 0, none⟩ w19 fun x77 w20 =>
                gd (α := Int) (!(x74 == x29)) (fun k78 =>
                  ldI .i64 w20 x77 fun x79 =>
                  k78 x79 w20) 0 w20 fun x80 w21 =>
                pif (cond (x74 == x29) true (x80 == (IntKind.wrap .i64 (0 - x29)))) (
                  R (.bool false) w21) (
                  k69 ((IntKind.wrap .i64 (v68 + 1)), ()) w21)) (
                k24 (v36, (IntKind.wrap .i64 (v23 + 1)), ()) w19)) (0, ()) w18)) (
          R (.bool (v22 == (x14n : Int))) w7)) (0, 0, ()) w6))
def An5 : An := .seq (.leaf) (.seq (.leaf) (.seq (.seq (.leaf) (.cond (.seq (.leaf) (.leaf)) (.leaf))) (.seq (.leaf) (.seq (.seq (.leaf) (.cond (.seq (.leaf) (.leaf)) (.leaf))) (.seq (.leaf) (.seq (.seq (.leaf) (.blk (.loop [(8, .one (.int .i64)), (9, .one (.int .i64))] (.seq (.seq (.leaf) (.cond (.leaf) (.leaf))) (.seq (.blk (.seq (.leaf) (.seq (.leaf) (.seq (.join [(11, .one (.int .i64))] (.seq (.leaf) (.cond (.leaf) (.leaf)))) (.seq (.join [(8, .one (.int .i64))] (.seq (.leaf) (.cond (.seq (.leaf) (.seq (.leaf) (.cond (.seq (.leaf) (.leaf)) (.leaf)))) (.seq (.leaf) (.cond (.seq (.leaf) (.leaf)) (.leaf)))))) (.seq (.seq (.leaf) (.cond (.seq (.leaf) (.leaf)) (.leaf))) (.seq (.leaf) (.blk (.loop [(12, .one (.int .i64))] (.seq (.seq (.leaf) (.cond (.leaf) (.leaf))) (.seq (.blk (.seq (.leaf) (.cond (.seq (.leaf) (.leaf)) (.leaf)))) (.leaf)))))))))))) (.leaf)))))) (.seq (.leaf) (.leaf))))))))
theorem V5_eq (a0 : Int) (a1 : Option Addr) (a1n : Nat) (a1c : Nat) (w : World) (R : Value → World → Prop) : evF Try.prog Try.f5 An5 [.int .i64 a0, .slice a1 a1n a1c] w R = V5 a0 a1 a1n a1c w R := by kernel_rfl
theorem V5_calls (a0 : Int) (a1 : Option Addr) (a1n : Nat) (a1c : Nat) (w : World) (R : Value → World → Prop) (h : V5 a0 a1 a1n a1c w R) : Calls Try.prog 5 #[.int .i64 a0, .slice a1 a1n a1c] w fun e w' => ∃ v, e = .returned v ∧ R v w' :=
  calls_of_ev (args := [.int .i64 a0, .slice a1 a1n a1c]) Try.func5 (Nat.le_of_ble_eq_true (by kernel_rfl)) (by rw [V5_eq]; exact h)
theorem ok5 : fnOk Try.prog 5 = true := by kernel_rfl

/-! depot/depotlaw05.TrailLooks -/
def V6 (a0 : Int) (a1 : Option Addr) (a1n : Nat) (a1c : Nat) (a2 : Option Addr) (a2n : Nat) (a2c : Nat) (w : World) (R : Value → World → Prop) : Prop :=
  cl Try.prog 17 [.int .i64 a0, .slice a1 a1n a1c] w fun e4 w1 => ∃ x3 : Option Addr, e4 = Ending.returned (.pointer x3) ∧
  gd (α := Bool) (!(Option.isNone x3)) (fun k6 =>
    cl Try.prog 21 [] w1 fun e8 w2 => ∃ x7 : Bool, e8 = Ending.returned (.bool x7) ∧
    k6 x7 w2) false w1 fun x9 w3 =>
  pif (cond (Option.isNone x3) true (!x9)) (
    R (.bool false) w3) (
    cl Try.prog 23 [.int .i64 a0, .int .i64 41] w3 fun e13 w4 => ∃ x12 : Int, e13 = Ending.returned (.int .i64 x12) ∧
    lp (σ := Int × Int × Int × Int × Unit) (fun s21 w5 k20 => match s21 with
      | (v16, v17, v18, v19, _) =>
      pif (decide (v19 < (a2n : Int))) (
        jn (σ := Int × Int × Int × Unit) (fun k26 =>
          ixA a2 a2n v19 1 fun p29 =>
          ldI .i64 w5 p29 fun x30 =>
          pif (cond (cond (x30 == 0) true (decide (x30 > x12))) true (decide (x30 < (IntKind.wrap .i64 (0 - x12))))) (
            cl Try.prog 24 [.pointer x3, .slice a2 a2n a2c] w5 fun e35 w7 => ∃ x33 : Int, ∃ x34 : Int, e35 = Ending.returned (.tuple #[.int .i8 x33, .int .i64 x34]) ∧
            R (.bool (cond (x33 == 0) (x34 == 0) false)) w7) (
            jn (σ := Int × Unit) (fun k38 =>
              cl Try.prog 14 [.pointer x3, .int .i64 x30] w5 fun e42 w9 => ∃ x41 : Int, e42 = Ending.returned (.int .i8 x41) ∧
              pif (cond (x41 == 1) (v16 == 0) false) (
                k38 (x30, ()) w9) (
                k38 (v16, ()) w9)) fun s39 w8 => match s39 with
            | (v37, _) =>
            cl Try.prog 14 [.pointer x3, .int .i64 x30] w8 fun e46 w10 => ∃ x45 : Int, e46 = Ending.returned (.int .i8 x45) ∧
            pif (cond (x45 == 0) (x30 != v17) false) (
              k26 (v37, x30, (IntKind.wrap .i64 (v18 + 1)), ()) w10) (
              k26 (v37, v17, v18, ()) w10))) fun s27 w6 => match s27 with
        | (v23, v24, v25, _) =>
        k20 (v23, v24, v25, (IntKind.wrap .i64 (v19 + 1)), ()) w6) (
        cl Try.prog 24 [.pointer x3, .slice a2 a2n a2c] w5 fun e53 w11 => ∃ x51 : Int, ∃ x52 : Int, e53 = Ending.returned (.tuple #[.int .i8 x51, .int .i64 x52]) ∧
        pif (v16 != 0) (
          R (.bool (cond (x51 == 1) (x52 == v16) false)) w11) (
          pif (v18 == 0) (
            R (.bool (cond (x51 == (-1)) (x52 == 0) false)) w11) (
            cl Try.prog 25 [.pointer x3, .slice a2 a2n a2c, .int .i64 v17] w11 fun e60 w12 => ∃ x59 : Bool, e60 = Ending.returned (.bool x59) ∧
            pif (!x59) (
              R (.bool (cond (x51 == 0) (x52 == 0) false)) w12) (
              pif (cond (x51 != 2) true (x52 != v17)) (
                R (.bool false) w12) (
                cl Try.prog 26 [.pointer x3, .int .i64 v17, .int .i64 3] w12 fun e66 w13 => ∃ x65 : Int, e66 = Ending.returned (.int .i64 x65) ∧
                pif (x65 != 0) (
                  R (.bool false) w13) (
                  cl Try.prog 24 [.pointer x3, .slice a2 a2n a2c] w13 fun e71 w14 => ∃ x69 : Int, ∃ x70 : Int, e71 = Ending.returned (.tuple #[.int .i8 x69, .int .i64 x70]) ∧
                  R (.bool (cond (x69 == 1) (x70 == v17) false)) w14))))))) (0, 0, 0, 0, ()) w4)
def An6 : An := .seq (.leaf) (.seq (.leaf) (.seq (.seq (.leaf) (.cond (.seq (.leaf) (.leaf)) (.leaf))) (.seq (.leaf) (.seq (.leaf) (.seq (.seq (.leaf) (.blk (.loop [(9, .one (.int .i64)), (10, .one (.int .i64)), (11, .one (.int .i64)), (12, .one (.int .i64))] (.seq (.seq (.leaf) (.cond (.leaf) (.leaf))) (.seq (.join [(9, .one (.int .i64)), (10, .one (.int .i64)), (11, .one (.int .i64))] (.blk (.seq (.leaf) (.seq (.seq (.leaf) (.cond (.seq (.leaf) (.seq (.leaf) (.leaf))) (.leaf))) (.seq (.join [(9, .one (.int .i64))] (.seq (.leaf) (.cond (.leaf) (.leaf)))) (.seq (.leaf) (.cond (.seq (.leaf) (.leaf)) (.leaf)))))))) (.leaf)))))) (.seq (.leaf) (.seq (.seq (.leaf) (.cond (.seq (.leaf) (.leaf)) (.leaf))) (.seq (.seq (.leaf) (.cond (.seq (.leaf) (.leaf)) (.leaf))) (.seq (.seq (.leaf) (.cond (.seq (.leaf) (.leaf)) (.leaf))) (.seq (.seq (.leaf) (.cond (.seq (.leaf) (.leaf)) (.leaf))) (.seq (.seq (.leaf) (.cond (.seq (.leaf) (.leaf)) (.leaf))) (.seq (.leaf) (.seq (.leaf) (.leaf))))))))))))))
theorem V6_eq (a0 : Int) (a1 : Option Addr) (a1n : Nat) (a1c : Nat) (a2 : Option Addr) (a2n : Nat) (a2c : Nat) (w : World) (R : Value → World → Prop) : evF Try.prog Try.f6 An6 [.int .i64 a0, .slice a1 a1n a1c, .slice a2 a2n a2c] w R = V6 a0 a1 a1n a1c a2 a2n a2c w R := by kernel_rfl
theorem V6_calls (a0 : Int) (a1 : Option Addr) (a1n : Nat) (a1c : Nat) (a2 : Option Addr) (a2n : Nat) (a2c : Nat) (w : World) (R : Value → World → Prop) (h : V6 a0 a1 a1n a1c a2 a2n a2c w R) : Calls Try.prog 6 #[.int .i64 a0, .slice a1 a1n a1c, .slice a2 a2n a2c] w fun e w' => ∃ v, e = .returned v ∧ R v w' :=
  calls_of_ev (args := [.int .i64 a0, .slice a1 a1n a1c, .slice a2 a2n a2c]) Try.func6 (Nat.le_of_ble_eq_true (by kernel_rfl)) (by rw [V6_eq]; exact h)
theorem ok6 : fnOk Try.prog 6 = true := by kernel_rfl

/-! depot/depotlaw05.TrailKeeps -/
def V7 (a0_0 : Int) (a0_1 : Int) (a0_2 : Option Addr) (a0_2n : Nat) (a0_2c : Nat) (a1 : Option Addr) (a1n : Nat) (a1c : Nat) (w : World) (R : Value → World → Prop) : Prop :=
  alc w [.int .i64 a0_0, .int .i64 a0_1, .slice a0_2 a0_2n a0_2c] 54 fun b2 w1 =>
  cl Try.prog 21 [] w1 fun e5 w2 => ∃ x4 : Bool, e5 = Ending.returned (.bool x4) ∧
  pif (!x4) (
    R (.bool false) w2) (
    ixA (some ((⟨b2, 0, none⟩ : Addr).add 0)) 2 0 1 fun p8 =>
    ldI .i64 w2 p8 fun x9 =>
    cl Try.prog 23 [.int .i64 x9, .int .i64 41] w2 fun e11 w3 => ∃ x10 : Int, e11 = Ending.returned (.int .i64 x10) ∧
    cl Try.prog 9 [.int .i64 x10] w3 fun e15 w4 => ∃ x13 : Option Addr, ∃ x14 : Int, e15 = Ending.returned (.tuple #[.pointer x13, .int .i64 x14]) ∧
    cl Try.prog 27 [.int .i64 x10] w4 fun e19 w5 => ∃ x17 : Option Addr, ∃ x18 : Int, e19 = Ending.returned (.tuple #[.pointer x17, .int .i64 x18]) ∧
    pif (cond (cond (Option.isNone x13) true (Option.isNone x17)) true (x14 != x18)) (
      R (.bool false) w5) (
      lp (σ := (Option Addr × Nat × Nat) × (Option Addr × Nat × Nat) × Int × Unit) (fun s28 w6 k27 => match s28 with
        | ((v24, v24n, v24c), (v25, v25n, v25c), v26, _) =>
        ldC w6 ((⟨b2, 0, none⟩ : Addr).add 2) fun x30 x30n x30c =>
        pif (decide (v26 < (x30n : Int))) (
          jn (σ := (Option Addr × Nat × Nat) × (Option Addr × Nat × Nat) × Unit) (fun k33 =>
            ldC w6 ((⟨b2, 0, none⟩ : Addr).add 2) fun x36 x36n x36c =>
            ixA x36 x36n v26 5 fun p37 =>
            ldI .i64 w6 (p37.add 0) fun x38 =>
            ldI .i64 w6 (p37.add 1) fun x39 =>
            ldI .i64 w6 (p37.add 2) fun x40 =>
            ldI .i64 w6 (p37.add 3) fun x41 =>
            ldC w6 (p37.add 4) fun x42 x42n x42c =>
            alc w6 [.int .i64 0, .int .i64 0, .int .i64 0, .int .i64 0, .slice none 0 0] 60 fun b43 w8 =>
            st w8 ((⟨b43, 0, none⟩ : Addr).add 0) (.int .i64 x38) fun w9 =>
            st w9 ((⟨b43, 0, none⟩ : Addr).add 1) (.int .i64 x39) fun w10 =>
            st w10 ((⟨b43, 0, none⟩ : Addr).add 2) (.int .i64 x40) fun w11 =>
            st w11 ((⟨b43, 0, none⟩ : Addr).add 3) (.int .i64 x41) fun w12 =>
            st w12 ((⟨b43, 0, none⟩ : Addr).add 4) (.slice x42 x42n x42c) fun w13 =>
            ldI .i64 w13 ((⟨b43, 0, none⟩ : Addr).add 1) fun x45 =>
            cl Try.prog 23 [.int .i64 x45, .int .i64 5] w13 fun e47 w14 => ∃ x46 : Int, e47 = Ending.returned (.int .i64 x46) ∧
            pif (x46 == 0) (
              ldI .i64 w14 ((⟨b43, 0, none⟩ : Addr).add 2) fun x50 =>
              cl Try.prog 18 [.pointer x13, .int .i64 x50] w14 fun e52 w15 => ∃ x51 : Int, e52 = Ending.returned (.int .i64 x51) ∧
              ldI .i64 w15 ((⟨b43, 0, none⟩ : Addr).add 2) fun x54 =>
              cl Try.prog 28 [.pointer x17, .int .i64 x54] w15 fun e56 w16 => ∃ x55 : Int, e56 = Ending.returned (.int .i64 x55) ∧
              k33 ((v24, v24n, v24c), (v25, v25n, v25c), ()) w16) (
              pif (x46 == 1) (
                ldI .i64 w14 ((⟨b43, 0, none⟩ : Addr).add 2) fun x59 =>
                ldI .i64 w14 ((⟨b43, 0, none⟩ : Addr).add 3) fun x60 =>
                cl Try.prog 26 [.pointer x13, .int .i64 x59, .int .i64 x60] w14 fun e62 w17 => ∃ x61 : Int, e62 = Ending.returned (.int .i64 x61) ∧
                ldI .i64 w17 ((⟨b43, 0, none⟩ : Addr).add 2) fun x64 =>
                ldI .i64 w17 ((⟨b43, 0, none⟩ : Addr).add 3) fun x65 =>
                cl Try.prog 29 [.pointer x17, .int .i64 x64, .int .i64 x65] w17 fun e67 w18 => ∃ x66 : Int, e67 = Ending.returned (.int .i64 x66) ∧
                k33 ((v24, v24n, v24c), (v25, v25n, v25c), ()) w18) (
                pif (x46 == 2) (
                  ldI .i64 w14 ((⟨b43, 0, none⟩ : Addr).add 2) fun x70 =>
                  cl Try.prog 12 [.pointer x13, .int .i64 x70] w14 fun e73 w19 => ∃ (x71 : Option Addr) (x71n x71c : Nat), ∃ x72 : Int, e73 = Ending.returned (.tuple #[.slice x71 x71n x71c, .int .i64 x72]) ∧
                  ldI .i64 w19 ((⟨b43, 0, none⟩ : Addr).add 2) fun x75 =>
                  cl Try.prog 30 [.pointer x17, .int .i64 x75] w19 fun e78 w20 => ∃ (x76 : Option Addr) (x76n x76c : Nat), ∃ x77 : Int, e78 = Ending.returned (.tuple #[.slice x76 x76n x76c, .int .i64 x77]) ∧
                  alc w20 [.slice x71 x71n x71c] 26 fun b80 w21 =>
                  ∃ (x81 : Option Addr) (x81n x81c : Nat), ∃ w22 : World, (Builtin.append_ #[58, 58] 58 #[.slice v24 v24n v24c, .slice (some (⟨b80, 0, none⟩ : Addr)) 1 1]).run Try.prog w21 = .ok (.slice x81 x81n x81c) w22 ∧
                  alc w22 [.slice x76 x76n x76c] 26 fun b83 w23 =>
                  ∃ (x84 : Option Addr) (x84n x84c : Nat), ∃ w24 : World, (Builtin.append_ #[58, 58] 58 #[.slice v25 v25n v25c, .slice (some (⟨b83, 0, none⟩ : Addr)) 1 1]).run Try.prog w23 = .ok (.slice x84 x84n x84c) w24 ∧
                  k33 ((x81, x81n, x81c), (x84, x84n, x84c), ()) w24) (
                  pif (x46 == 3) (
                    cl Try.prog 10 [.pointer x13] w14 fun e88 w25 => ∃ (x87 : Option Addr) (x87n x87c : Nat), e88 = Ending.returned (.slice x87 x87n x87c) ∧
                    cl Try.prog 10 [.pointer x13] w25 fun e90 w26 => ∃ (x89 : Option Addr) (x89n x89c : Nat), e90 = Ending.returned (.slice x89 x89n x89c) ∧
                    alc w26 [.slice x87 x87n x87c, .slice x89 x89n x89c] 26 fun b91 w27 =>
                    ∃ (x92 : Option Addr) (x92n x92c : Nat), ∃ w28 : World, (Builtin.append_ #[58, 58] 58 #[.slice v24 v24n v24c, .slice (some (⟨b91, 0, none⟩ : Addr)) 2 2]).run Try.prog w27 = .ok (.slice x92 x92n x92c) w28 ∧
                    cl Try.prog 31 [.pointer x17] w28 fun e95 w29 => ∃ (x94 : Option Addr) (x94n x94c : Nat), e95 = Ending.returned (.slice x94 x94n x94c) ∧
                    cl Try.prog 31 [.pointer x17] w29 fun e97 w30 => ∃ (x96 : Option Addr) (x96n x96c : Nat), e97 = Ending.returned (.slice x96 x96n x96c) ∧
                    alc w30 [.slice x94 x94n x94c, .slice x96 x96n x96c] 26 fun b98 w31 =>
                    ∃ (x99 : Option Addr) (x99n x99c : Nat), ∃ w32 : World, (Builtin.append_ #[58, 58] 58 #[.slice v25 v25n v25c, .slice (some (⟨b98, 0, none⟩ : Addr)) 2 2]).run Try.prog w31 = .ok (.slice x99 x99n x99c) w32 ∧
                    k33 ((x92, x92n, x92c), (x99, x99n, x99c), ()) w32) (
                    cl Try.prog 11 [.pointer x13] w14 fun e102 w33 => ∃ (x101 : Option Addr) (x101n x101c : Nat), e102 = Ending.returned (.slice x101 x101n x101c) ∧
                    cl Try.prog 11 [.pointer x13] w33 fun e104 w34 => ∃ (x103 : Option Addr) (x103n x103c : Nat), e104 = Ending.returned (.slice x103 x103n x103c) ∧
                    alc w34 [.slice x101 x101n x101c, .slice x103 x103n x103c] 26 fun b105 w35 =>
                    ∃ (x106 : Option Addr) (x106n x106c : Nat), ∃ w36 : World, (Builtin.append_ #[58, 58] 58 #[.slice v24 v24n v24c, .slice (some (⟨b105, 0, none⟩ : Addr)) 2 2]).run Try.prog w35 = .ok (.slice x106 x106n x106c) w36 ∧
                    cl Try.prog 32 [.pointer x17] w36 fun e109 w37 => ∃ (x108 : Option Addr) (x108n x108c : Nat), e109 = Ending.returned (.slice x108 x108n x108c) ∧
                    cl Try.prog 32 [.pointer x17] w37 fun e111 w38 => ∃ (x110 : Option Addr) (x110n x110c : Nat), e111 = Ending.returned (.slice x110 x110n x110c) ∧
                    alc w38 [.slice x108 x108n x108c, .slice x110 x110n x110c] 26 fun b112 w39 =>
                    ∃ (x113 : Option Addr) (x113n x113c : Nat), ∃ w40 : World, (Builtin.append_ #[58, 58] 58 #[.slice v25 v25n v25c, .slice (some (⟨b112, 0, none⟩ : Addr)) 2 2]).run Try.prog w39 = .ok (.slice x113 x113n x113c) w40 ∧
                    k33 ((x106, x106n, x106c), (x113, x113n, x113c), ()) w40))))) fun s34 w7 => match s34 with
          | ((v31, v31n, v31c), (v32, v32n, v32c), _) =>
          k27 ((v31, v31n, v31c), (v32, v32n, v32c), (IntKind.wrap .i64 (v26 + 1)), ()) w7) (
          cl Try.prog 33 [.pointer x13, .pointer x17, .slice a1 a1n a1c] w6 fun e117 w41 => ∃ x116 : Bool, e117 = Ending.returned (.bool x116) ∧
          pif (!x116) (
            R (.bool false) w41) (
            lp (σ := Int × Unit) (fun s122 w42 k121 => match s122 with
              | (v120, _) =>
              pif (decide (v120 < (v24n : Int))) (
                ixA v24 v24n v120 1 fun p124 =>
                ldC (World.drew w42) p124 fun x125 x125n x125c =>
                ixA v25 v25n v120 1 fun p126 =>
                ldC (World.drew w42) p126 fun x127 x127n x127c =>
                cl Try.prog 19 [.slice x125 x125n x125c, .slice x127 x127n x127c] (World.drew w42) fun e129 w43 => ∃ x128 : Bool, e129 = Ending.returned (.bool x128) ∧
                pif (!x128) (
                  R (.bool false) w43) (
                  k121 ((IntKind.wrap .i64 (v120 + 1)), ()) w43)) (
                cl Try.prog 10 [.pointer x13] w42 fun e134 w44 => ∃ (x133 : Option Addr) (x133n x133c : Nat), e134 = Ending.returned (.slice x133 x133n x133c) ∧
                cl Try.prog 11 [.pointer x13] w44 fun e136 w45 => ∃ (x135 : Option Addr) (x135n x135c : Nat), e136 = Ending.returned (.slice x135 x135n x135c) ∧
                alc w45 [.slice x133 x133n x133c, .slice x135 x135n x135c] 26 fun b137 w46 =>
                ∃ (x138 : Option Addr) (x138n x138c : Nat), ∃ w47 : World, (Builtin.append_ #[58, 58] 58 #[.slice v24 v24n v24c, .slice (some (⟨b137, 0, none⟩ : Addr)) 2 2]).run Try.prog w46 = .ok (.slice x138 x138n x138c) w47 ∧
                cl Try.prog 34 [.slice x138 x138n x138c] w47 fun e141 w48 => ∃ x140 : Bool, e141 = Ending.returned (.bool x140) ∧
                pif (!x140) (
                  R (.bool false) w48) (
                  cl Try.prog 35 [.pointer x13, .pointer x17] w48 fun e145 w49 => ∃ x144 : Bool, e145 = Ending.returned (.bool x144) ∧
                  gd (α := Bool) x144 (fun k146 =>
                    cl Try.prog 33 [.pointer x13, .pointer x17, .slice a1 a1n a1c] w49 fun e148 w50 => ∃ x147 : Bool, e148 = Ending.returned (.bool x147) ∧
                    k146 x147 w50) false w49 fun x149 w51 =>
                  R (.bool (cond x144 x149 false)) w51))) (0, ()) w41))) ((none, 0, 0), (none, 0, 0), 0, ()) w5))
def An7 : An := .seq (.leaf) (.seq (.seq (.leaf) (.cond (.seq (.leaf) (.leaf)) (.leaf))) (.seq (.leaf) (.seq (.leaf) (.seq (.leaf) (.seq (.seq (.leaf) (.cond (.seq (.leaf) (.leaf)) (.leaf))) (.seq (.leaf) (.seq (.seq (.leaf) (.blk (.loop [(10, .one (.slc)), (11, .one (.slc)), (12, .one (.int .i64))] (.seq (.seq (.leaf) (.cond (.leaf) (.leaf))) (.seq (.join [(10, .one (.slc)), (11, .one (.slc))] (.blk (.seq (.leaf) (.seq (.leaf) (.blk (.seq (.leaf) (.cond (.seq (.leaf) (.leaf)) (.seq (.leaf) (.cond (.seq (.leaf) (.leaf)) (.seq (.leaf) (.cond (.seq (.leaf) (.seq (.leaf) (.seq (.leaf) (.leaf)))) (.seq (.leaf) (.cond (.seq (.leaf) (.leaf)) (.seq (.leaf) (.leaf))))))))))))))) (.leaf)))))) (.seq (.seq (.leaf) (.cond (.seq (.leaf) (.leaf)) (.leaf))) (.seq (.seq (.leaf) (.blk (.loop [(18, .one (.int .i64))] (.seq (.seq (.leaf) (.cond (.leaf) (.leaf))) (.seq (.blk (.seq (.draw [0, 0, 3, 7, 0, 0, 48, 112, 255, 511]) (.cond (.seq (.leaf) (.leaf)) (.leaf)))) (.leaf)))))) (.seq (.leaf) (.seq (.seq (.leaf) (.cond (.seq (.leaf) (.leaf)) (.leaf))) (.seq (.leaf) (.leaf)))))))))))))
theorem V7_eq (a0_0 : Int) (a0_1 : Int) (a0_2 : Option Addr) (a0_2n : Nat) (a0_2c : Nat) (a1 : Option Addr) (a1n : Nat) (a1c : Nat) (w : World) (R : Value → World → Prop) : evF Try.prog Try.f7 An7 [.agg #[.int .i64 a0_0, .int .i64 a0_1, .slice a0_2 a0_2n a0_2c], .slice a1 a1n a1c] w R = V7 a0_0 a0_1 a0_2 a0_2n a0_2c a1 a1n a1c w R := by kernel_rfl
theorem V7_calls (a0_0 : Int) (a0_1 : Int) (a0_2 : Option Addr) (a0_2n : Nat) (a0_2c : Nat) (a1 : Option Addr) (a1n : Nat) (a1c : Nat) (w : World) (R : Value → World → Prop) (h : V7 a0_0 a0_1 a0_2 a0_2n a0_2c a1 a1n a1c w R) : Calls Try.prog 7 #[.agg #[.int .i64 a0_0, .int .i64 a0_1, .slice a0_2 a0_2n a0_2c], .slice a1 a1n a1c] w fun e w' => ∃ v, e = .returned v ∧ R v w' :=
  calls_of_ev (args := [.agg #[.int .i64 a0_0, .int .i64 a0_1, .slice a0_2 a0_2n a0_2c], .slice a1 a1n a1c]) Try.func7 (Nat.le_of_ble_eq_true (by kernel_rfl)) (by rw [V7_eq]; exact h)
theorem ok7 : fnOk Try.prog 7 = true := by kernel_rfl

/-! depot/depotlaw05.TrailScript -/
def V8 (a0_0 : Int) (a0_1 : Int) (a0_2 : Option Addr) (a0_2n : Nat) (a0_2c : Nat) (w : World) (R : Value → World → Prop) : Prop :=
  alc w [.int .i64 a0_0, .int .i64 a0_1, .slice a0_2 a0_2n a0_2c] 54 fun b2 w1 =>
  alc w1 [.pointer none, .pointer none] 65 fun b4 w2 =>
  alc w2 [.pointer none, .pointer none] 66 fun b6 w3 =>
  lp (σ := Int × Unit) (fun s10 w4 k9 => match s10 with
    | (v8, _) =>
    pif (decide (v8 < 2)) (
      ixA (some ((⟨b2, 0, none⟩ : Addr).add 0)) 2 v8 1 fun p13 =>
      ldI .i64 w4 p13 fun x14 =>
      cl Try.prog 9 [.int .i64 x14] w4 fun e17 w5 => ∃ x15 : Option Addr, ∃ x16 : Int, e17 = Ending.returned (.tuple #[.pointer x15, .int .i64 x16]) ∧
      ixA (some ((⟨b2, 0, none⟩ : Addr).add 0)) 2 v8 1 fun p19 =>
      ldI .i64 w5 p19 fun x20 =>
      cl Try.prog 27 [.int .i64 x20] w5 fun e23 w6 => ∃ x21 : Option Addr, ∃ x22 : Int, e23 = Ending.returned (.tuple #[.pointer x21, .int .i64 x22]) ∧
      pif (cond (x16 != x22) true (!((!(Option.isNone x15)) == (!(Option.isNone x21))))) (
        R (.bool false) w6) (
        jn (σ := (Option Addr) × (Option Addr) × Unit) (fun k28 =>
          pif (Option.isNone x21) (
            cl Try.prog 9 [.int .i64 4] w6 fun e34 w8 => ∃ x32 : Option Addr, ∃ x33 : Int, e34 = Ending.returned (.tuple #[.pointer x32, .int .i64 x33]) ∧
            cl Try.prog 27 [.int .i64 4] w8 fun e38 w9 => ∃ x36 : Option Addr, ∃ x37 : Int, e38 = Ending.returned (.tuple #[.pointer x36, .int .i64 x37]) ∧
            pif (cond (cond (Option.isNone x32) true (x33 != 0)) true (x37 != 0)) (
              R (.bool false) w9) (
              k28 (x32, x36, ()) w9)) (
            k28 (x15, x21, ()) w6)) fun s29 w7 => match s29 with
        | (v26, v27, _) =>
        ixA (some (⟨b4, 0, none⟩ : Addr)) 2 v8 1 fun p42 =>
        st w7 (p42.add 0) (.pointer v26) fun w10 =>
        ixA (some (⟨b6, 0, none⟩ : Addr)) 2 v8 1 fun p44 =>
        st w10 (p44.add 0) (.pointer v27) fun w11 =>
        k9 ((IntKind.wrap .i64 (v8 + 1)), ()) w11)) (
      lp (σ := Int × Unit) (fun s49 w12 k48 => match s49 with
        | (v47, _) =>
        ldC w12 ((⟨b2, 0, none⟩ : Addr).add 2) fun x51 x51n x51c =>
        pif (decide (v47 < (x51n : Int))) (
          ldC w12 ((⟨b2, 0, none⟩ : Addr).add 2) fun x53 x53n x53c =>
          ixA x53 x53n v47 5 fun p54 =>
          ldI .i64 w12 (p54.add 0) fun x55 =>
          cl Try.prog 23 [.int .i64 x55, .int .i64 2] w12 fun e57 w13 => ∃ x56 : Int, e57 = Ending.returned (.int .i64 x56) ∧
          ixA (some (⟨b4, 0, none⟩ : Addr)) 2 x56 1 fun p58 =>
          ldP (World.drew w13) p58 fun x59 =>
          ixA (some (⟨b6, 0, none⟩ : Addr)) 2 x56 1 fun p60 =>
          ldP (World.drew w13) p60 fun x61 =>
          ldC (World.drew w13) ((⟨b2, 0, none⟩ : Addr).add 2) fun x62 x62n x62c =>
          ixA x62 x62n v47 5 fun p63 =>
          ldI .i64 (World.drew w13) (p63.add 0) fun x64 =>
          ldI .i64 (World.drew w13) (p63.add 1) fun x65 =>
          ldI .i64 (World.drew w13) (p63.add 2) fun x66 =>
          ldI .i64 (World.drew w13) (p63.add 3) fun x67 =>
          ldC (World.drew w13) (p63.add 4) fun x68 x68n x68c =>
          cl Try.prog 36 [.pointer x59, .pointer x61, .agg #[.int .i64 x64, .int .i64 x65, .int .i64 x66, .int .i64 x67, .slice x68 x68n x68c]] (World.drew w13) fun e70 w14 => ∃ x69 : Bool, e70 = Ending.returned (.bool x69) ∧
          pif (!x69) (
            R (.bool false) w14) (
            k48 ((IntKind.wrap .i64 (v47 + 1)), ()) w14)) (
          ixA (some (⟨b4, 0, none⟩ : Addr)) 2 0 1 fun p74 =>
          ldP w12 p74 fun x75 =>
          ixA (some (⟨b6, 0, none⟩ : Addr)) 2 0 1 fun p76 =>
          ldP w12 p76 fun x77 =>
          cl Try.prog 35 [.pointer x75, .pointer x77] w12 fun e79 w15 => ∃ x78 : Bool, e79 = Ending.returned (.bool x78) ∧
          gd (α := Addr) x78 (fun k80 =>
            ixA (some (⟨b4, 0, none⟩ : Addr)) 2 1 1 fun p81 =>
            k80 p81 w15) ⟨0, 0, none⟩ w15 fun x82 w16 =>
          gd (α := (Option Addr)) x78 (fun k83 =>
            ldP w16 x82 fun x84 =>
            k83 x84 w16) none w16 fun x85 w17 =>
          gd (α := Addr) x78 (fun k86 =>
            ixA (some (⟨b6, 0, none⟩ : Addr)) 2 1 1 fun p87 =>
            k86 p87 w17) ⟨0, 0, none⟩ w17 fun x88 w18 =>
          gd (α := (Option Addr)) x78 (fun k89 =>
            ldP w18 x88 fun x90 =>
            k89 x90 w18) none w18 fun x91 w19 =>
          gd (α := Bool) x78 (fun k92 =>
            cl Try.prog 35 [.pointer x85, .pointer x91] w19 fun e94 w20 => ∃ x93 : Bool, e94 = Ending.returned (.bool x93) ∧
            k92 x93 w20) false w19 fun x95 w21 =>
          R (.bool (cond x78 x95 false)) w21)) (0, ()) w4)) (0, ()) w3
def An8 : An := .seq (.leaf) (.seq (.leaf) (.seq (.leaf) (.seq (.seq (.leaf) (.blk (.loop [(5, .one (.int .i64))] (.seq (.seq (.leaf) (.cond (.leaf) (.leaf))) (.seq (.blk (.seq (.leaf) (.seq (.leaf) (.seq (.seq (.leaf) (.cond (.seq (.leaf) (.leaf)) (.leaf))) (.seq (.join [(6, .one (.ptr)), (8, .one (.ptr))] (.seq (.leaf) (.cond (.seq (.leaf) (.seq (.leaf) (.seq (.leaf) (.cond (.seq (.leaf) (.leaf)) (.leaf))))) (.leaf)))) (.seq (.leaf) (.leaf))))))) (.leaf)))))) (.seq (.seq (.leaf) (.blk (.loop [(10, .one (.int .i64))] (.seq (.seq (.leaf) (.cond (.leaf) (.leaf))) (.seq (.blk (.seq (.leaf) (.seq (.draw [0, 1, 3, 0, 8, 24, 0, 64, 0, 448, 960, 2047, 4095]) (.cond (.seq (.leaf) (.leaf)) (.leaf))))) (.leaf)))))) (.seq (.leaf) (.leaf))))))
theorem V8_eq (a0_0 : Int) (a0_1 : Int) (a0_2 : Option Addr) (a0_2n : Nat) (a0_2c : Nat) (w : World) (R : Value → World → Prop) : evF Try.prog Try.f8 An8 [.agg #[.int .i64 a0_0, .int .i64 a0_1, .slice a0_2 a0_2n a0_2c]] w R = V8 a0_0 a0_1 a0_2 a0_2n a0_2c w R := by kernel_rfl
theorem V8_calls (a0_0 : Int) (a0_1 : Int) (a0_2 : Option Addr) (a0_2n : Nat) (a0_2c : Nat) (w : World) (R : Value → World → Prop) (h : V8 a0_0 a0_1 a0_2 a0_2n a0_2c w R) : Calls Try.prog 8 #[.agg #[.int .i64 a0_0, .int .i64 a0_1, .slice a0_2 a0_2n a0_2c]] w fun e w' => ∃ v, e = .returned v ∧ R v w' :=
  calls_of_ev (args := [.agg #[.int .i64 a0_0, .int .i64 a0_1, .slice a0_2 a0_2n a0_2c]]) Try.func8 (Nat.le_of_ble_eq_true (by kernel_rfl)) (by rw [V8_eq]; exact h)
theorem ok8 : fnOk Try.prog 8 = true := by kernel_rfl

/-! depot/trail.New -/
def V9 (a0 : Int) (w : World) (R : Value → World → Prop) : Prop :=
  pif (cond (decide (a0 < 0)) true (decide (a0 > 1048576))) (
    R (.tuple #[.pointer none, .int .i64 2]) w) (
    (
      ∃ (x4 : Option Addr) (x4n x4c : Nat), ∃ w1 : World, (Instr.makeSlice 69 (.int .i64 a0) (.int .i64 a0)).run Try.prog (World.drew w) = .ok (.slice x4 x4n x4c) w1 ∧
      ∃ (x5 : Option Addr) (x5n x5c : Nat), ∃ w2 : World, (Instr.makeSlice 70 (.int .i64 a0) (.int .i64 a0)).run Try.prog w1 = .ok (.slice x5 x5n x5c) w2 ∧
      alc w2 [.slice none 0 0, .slice none 0 0, .slice x4 x4n x4c, .slice x5 x5n x5c] 73 fun b6 w3 =>
      R (.tuple #[.pointer (some (⟨b6, 0, none⟩ : Addr)), .int .i64 0]) w3) ∧
    (
      ∃ (x7 : Option Addr) (x7n x7c : Nat), ∃ w4 : World, (Instr.makeSlice 70 (.int .i64 a0) (.int .i64 a0)).run Try.prog (World.drew w) = .ok (.slice x7 x7n x7c) w4 ∧
      ∃ (x8 : Option Addr) (x8n x8c : Nat), ∃ w5 : World, (Instr.makeSlice 69 (.int .i64 a0) (.int .i64 a0)).run Try.prog w4 = .ok (.slice x8 x8n x8c) w5 ∧
      alc w5 [.slice none 0 0, .slice none 0 0, .slice x8 x8n x8c, .slice x7 x7n x7c] 73 fun b9 w6 =>
      R (.tuple #[.pointer (some (⟨b9, 0, none⟩ : Addr)), .int .i64 0]) w6))
def An9 : An := .seq (.leaf) (.seq (.seq (.leaf) (.cond (.seq (.leaf) (.leaf)) (.leaf))) (.seq (.draw [0, 1, 0, 4, 15, 31, 63, 127]) (.leaf)))
theorem V9_eq (a0 : Int) (w : World) (R : Value → World → Prop) : evF Try.prog Try.f9 An9 [.int .i64 a0] w R = V9 a0 w R := by kernel_rfl
theorem V9_calls (a0 : Int) (w : World) (R : Value → World → Prop) (h : V9 a0 w R) : Calls Try.prog 9 #[.int .i64 a0] w fun e w' => ∃ v, e = .returned v ∧ R v w' :=
  calls_of_ev (args := [.int .i64 a0]) Try.func9 (Nat.le_of_ble_eq_true (by kernel_rfl)) (by rw [V9_eq]; exact h)
theorem ok9 : fnOk Try.prog 9 = true := by kernel_rfl

/-! (*depot/trail.Trail).Lits -/
def V10 (a0 : Option Addr) (w : World) (R : Value → World → Prop) : Prop :=
  nn a0 fun p3 =>
  ldC w (p3.add 0) fun x4 x4n x4c =>
  ∃ (x5 : Option Addr) (x5n x5c : Nat), ∃ w1 : World, (Builtin.append_ #[26, 26] 26 #[.slice none 0 0, .slice x4 x4n x4c]).run Try.prog w = .ok (.slice x5 x5n x5c) w1 ∧
  R (.slice x5 x5n x5c) w1
def An10 : An := .seq (.leaf) (.seq (.leaf) (.leaf))
theorem V10_eq (a0 : Option Addr) (w : World) (R : Value → World → Prop) : evF Try.prog Try.f10 An10 [.pointer a0] w R = V10 a0 w R := by kernel_rfl
theorem V10_calls (a0 : Option Addr) (w : World) (R : Value → World → Prop) (h : V10 a0 w R) : Calls Try.prog 10 #[.pointer a0] w fun e w' => ∃ v, e = .returned v ∧ R v w' :=
  calls_of_ev (args := [.pointer a0]) Try.func10 (Nat.le_of_ble_eq_true (by kernel_rfl)) (by rw [V10_eq]; exact h)
theorem ok10 : fnOk Try.prog 10 = true := by kernel_rfl

/-! (*depot/trail.Trail).Marks -/
def V11 (a0 : Option Addr) (w : World) (R : Value → World → Prop) : Prop :=
  nn a0 fun p4 =>
  ldC w (p4.add 1) fun x5 x5n x5c =>
  lp (σ := (Option Addr × Nat × Nat) × Int × Unit) (fun s9 w1 k8 => match s9 with
    | ((v6, v6n, v6c), v7, _) =>
    pif (decide (v7 < (x5n : Int))) (
      ixA x5 x5n v7 1 fun p12 =>
      ldI .i64 w1 (p12.add 0) fun x13 =>
      alc w1 [.int .i64 0] 77 fun b14 w2 =>
      st w2 ((⟨b14, 0, none⟩ : Addr).add 0) (.int .i64 x13) fun w3 =>
      ldI .i64 w3 (((⟨b14, 0, none⟩ : Addr).add 0).add 0) fun x16 =>
      alc w3 [.int .i64 x16] 3 fun b17 w4 =>
      ∃ (x18 : Option Addr) (x18n x18c : Nat), ∃ w5 : World, (Builtin.append_ #[26, 26] 26 #[.slice v6 v6n v6c, .slice (some (⟨b17, 0, none⟩ : Addr)) 1 1]).run Try.prog w4 = .ok (.slice x18 x18n x18c) w5 ∧
      k8 ((x18, x18n, x18c), (IntKind.wrap .i64 (v7 + 1)), ()) w5) (
      R (.slice v6 v6n v6c) w1)) ((none, 0, 0), 0, ()) w
def An11 : An := .seq (.leaf) (.seq (.leaf) (.seq (.seq (.leaf) (.blk (.loop [(3, .one (.slc)), (11, .one (.int .i64))] (.seq (.leaf) (.seq (.cond (.leaf) (.leaf)) (.seq (.blk (.seq (.leaf) (.leaf))) (.leaf))))))) (.seq (.leaf) (.leaf))))
theorem V11_eq (a0 : Option Addr) (w : World) (R : Value → World → Prop) : evF Try.prog Try.f11 An11 [.pointer a0] w R = V11 a0 w R := by kernel_rfl
theorem V11_calls (a0 : Option Addr) (w : World) (R : Value → World → Prop) (h : V11 a0 w R) : Calls Try.prog 11 #[.pointer a0] w fun e w' => ∃ v, e = .returned v ∧ R v w' :=
  calls_of_ev (args := [.pointer a0]) Try.func11 (Nat.le_of_ble_eq_true (by kernel_rfl)) (by rw [V11_eq]; exact h)
theorem ok11 : fnOk Try.prog 11 = true := by kernel_rfl

/-! (*depot/trail.Trail).Back -/
def V12 (a0 : Option Addr) (a1 : Int) (w : World) (R : Value → World → Prop) : Prop :=
  gd (α := Addr) (!(decide (a1 < 0))) (fun k3 =>
    nn a0 fun p4 =>
    k3 p4 w) ⟨0, 0, none⟩ w fun x5 w1 =>
  gd (α := (Option Addr × Nat × Nat)) (!(decide (a1 < 0))) (fun k6 =>
    ldC w1 (x5.add 1) fun x7 x7n x7c =>
    k6 (x7, x7n, x7c) w1) (none, 0, 0) w1 fun x8 w2 =>
  pif (cond (decide (a1 < 0)) true (decide (a1 > (x8.2.1 : Int)))) (
    R (.tuple #[.slice none 0 0, .int .i64 2]) w2) (
    nn a0 fun p11 =>
    ldC w2 (p11.add 1) fun x12 x12n x12c =>
    pif (a1 == (x12n : Int)) (
      R (.tuple #[.slice none 0 0, .int .i64 0]) w2) (
      nn a0 fun p15 =>
      ldC w2 (p15.add 1) fun x16 x16n x16c =>
      ixA x16 x16n a1 1 fun p17 =>
      ldI .i64 w2 ((p17.add 0).add 0) fun x18 =>
      nn a0 fun p21 =>
      ldC w2 (p21.add 0) fun x22 x22n x22c =>
      lp (σ := (Option Addr × Nat × Nat) × Int × Unit) (fun s26 w3 k25 => match s26 with
        | ((v23, v23n, v23c), v24, _) =>
        pif (decide (v24 ≥ x18)) (
          nn a0 fun p29 =>
          ldC w3 (p29.add 0) fun x30 x30n x30c =>
          ixA x30 x30n v24 1 fun p31 =>
          ldI .i64 w3 p31 fun x32 =>
          cl Try.prog 37 [.pointer a0, .int .i64 x32] w3 fun e36 w4 => ∃ x34 : Int, ∃ x35 : Bool, e36 = Ending.returned (.tuple #[.int .i64 x34, .bool x35]) ∧
          nn a0 fun p38 =>
          ldC w4 (p38.add 2) fun x39 x39n x39c =>
          ixA x39 x39n x34 1 fun p40 =>
          st w4 (p40.add 0) (.int .i8 0) fun w5 =>
          alc w5 [.int .i64 x32] 3 fun b42 w6 =>
          ∃ (x43 : Option Addr) (x43n x43c : Nat), ∃ w7 : World, (Builtin.append_ #[26, 26] 26 #[.slice v23 v23n v23c, .slice (some (⟨b42, 0, none⟩ : Addr)) 1 1]).run Try.prog w6 = .ok (.slice x43 x43n x43c) w7 ∧
          k25 ((x43, x43n, x43c), (IntKind.wrap .i64 (v24 - 1)), ()) w7) (
          nn a0 fun p46 =>
          ldC w3 (p46.add 0) fun x47 x47n x47c =>
          0 ≤ x18 ∧ x18 ≤ (x47c : Int) ∧
          nn a0 fun p48 =>
          st w3 ((p48.add 0).add 0) (.slice (slA x47 x47c 0 1) ((Int.toNat x18) - 0) (x47c - 0)) fun w8 =>
          nn a0 fun p50 =>
          ldC w8 (p50.add 1) fun x51 x51n x51c =>
          0 ≤ a1 ∧ a1 ≤ (x51c : Int) ∧
          nn a0 fun p52 =>
          st w8 ((p52.add 1).add 0) (.slice (slA x51 x51c 0 1) ((Int.toNat a1) - 0) (x51c - 0)) fun w9 =>
          R (.tuple #[.slice v23 v23n v23c, .int .i64 0]) w9)) ((none, 0, 0), (IntKind.wrap .i64 ((x22n : Int) - 1)), ()) w2))
def An12 : An := .seq (.leaf) (.seq (.seq (.leaf) (.cond (.seq (.leaf) (.leaf)) (.leaf))) (.seq (.seq (.leaf) (.cond (.seq (.leaf) (.leaf)) (.leaf))) (.seq (.leaf) (.seq (.leaf) (.seq (.seq (.leaf) (.blk (.loop [(7, .one (.slc)), (8, .one (.int .i64))] (.seq (.seq (.leaf) (.cond (.leaf) (.leaf))) (.seq (.blk (.seq (.leaf) (.seq (.leaf) (.seq (.leaf) (.leaf))))) (.leaf)))))) (.seq (.leaf) (.seq (.leaf) (.seq (.leaf) (.leaf)))))))))
theorem V12_eq (a0 : Option Addr) (a1 : Int) (w : World) (R : Value → World → Prop) : evF Try.prog Try.f12 An12 [.pointer a0, .int .i64 a1] w R = V12 a0 a1 w R := by kernel_rfl
theorem V12_calls (a0 : Option Addr) (a1 : Int) (w : World) (R : Value → World → Prop) (h : V12 a0 a1 w R) : Calls Try.prog 12 #[.pointer a0, .int .i64 a1] w fun e w' => ∃ v, e = .returned v ∧ R v w' :=
  calls_of_ev (args := [.pointer a0, .int .i64 a1]) Try.func12 (Nat.le_of_ble_eq_true (by kernel_rfl)) (by rw [V12_eq]; exact h)
theorem ok12 : fnOk Try.prog 12 = true := by kernel_rfl

/-! (*depot/trail.Trail).Level -/
def V13 (a0 : Option Addr) (w : World) (R : Value → World → Prop) : Prop :=
  nn a0 fun p3 =>
  ldC w (p3.add 1) fun x4 x4n x4c =>
  R (.int .i64 (x4n : Int)) w
def An13 : An := .seq (.leaf) (.seq (.leaf) (.leaf))
theorem V13_eq (a0 : Option Addr) (w : World) (R : Value → World → Prop) : evF Try.prog Try.f13 An13 [.pointer a0] w R = V13 a0 w R := by kernel_rfl
theorem V13_calls (a0 : Option Addr) (w : World) (R : Value → World → Prop) (h : V13 a0 w R) : Calls Try.prog 13 #[.pointer a0] w fun e w' => ∃ v, e = .returned v ∧ R v w' :=
  calls_of_ev (args := [.pointer a0]) Try.func13 (Nat.le_of_ble_eq_true (by kernel_rfl)) (by rw [V13_eq]; exact h)
theorem ok13 : fnOk Try.prog 13 = true := by kernel_rfl

/-! (*depot/trail.Trail).Value -/
def V14 (a0 : Option Addr) (a1 : Int) (w : World) (R : Value → World → Prop) : Prop :=
  cl Try.prog 37 [.pointer a0, .int .i64 a1] w fun e5 w1 => ∃ x3 : Int, ∃ x4 : Bool, e5 = Ending.returned (.tuple #[.int .i64 x3, .bool x4]) ∧
  pif (!x4) (
    R (.int .i8 0) w1) (
    pif (decide (a1 < 0)) (
      nn a0 fun p10 =>
      ldC w1 (p10.add 2) fun x11 x11n x11c =>
      ixA x11 x11n x3 1 fun p12 =>
      ldI .i8 w1 p12 fun x13 =>
      R (.int .i8 (IntKind.wrap .i8 (0 - x13))) w1) (
      nn a0 fun p15 =>
      ldC w1 (p15.add 2) fun x16 x16n x16c =>
      ixA x16 x16n x3 1 fun p17 =>
      ldI .i8 w1 p17 fun x18 =>
      R (.int .i8 x18) w1))
def An14 : An := .seq (.leaf) (.seq (.leaf) (.seq (.seq (.leaf) (.cond (.seq (.leaf) (.leaf)) (.leaf))) (.seq (.seq (.leaf) (.cond (.seq (.leaf) (.leaf)) (.leaf))) (.seq (.leaf) (.leaf)))))
theorem V14_eq (a0 : Option Addr) (a1 : Int) (w : World) (R : Value → World → Prop) : evF Try.prog Try.f14 An14 [.pointer a0, .int .i64 a1] w R = V14 a0 a1 w R := by kernel_rfl
theorem V14_calls (a0 : Option Addr) (a1 : Int) (w : World) (R : Value → World → Prop) (h : V14 a0 a1 w R) : Calls Try.prog 14 #[.pointer a0, .int .i64 a1] w fun e w' => ∃ v, e = .returned v ∧ R v w' :=
  calls_of_ev (args := [.pointer a0, .int .i64 a1]) Try.func14 (Nat.le_of_ble_eq_true (by kernel_rfl)) (by rw [V14_eq]; exact h)
theorem ok14 : fnOk Try.prog 14 = true := by kernel_rfl

/-! (*depot/trail.Trail).LevelOf -/
def V15 (a0 : Option Addr) (a1 : Int) (w : World) (R : Value → World → Prop) : Prop :=
  cl Try.prog 38 [.pointer a0, .int .i64 a1] w fun e6 w1 => ∃ x3 : Int, ∃ x4 : Int, ∃ x5 : Bool, e6 = Ending.returned (.tuple #[.agg #[.int .i64 x3, .int .i64 x4], .bool x5]) ∧
  alc w1 [.int .i64 0, .int .i64 0] 81 fun b7 w2 =>
  st w2 ((⟨b7, 0, none⟩ : Addr).add 0) (.int .i64 x3) fun w3 =>
  st w3 ((⟨b7, 0, none⟩ : Addr).add 1) (.int .i64 x4) fun w4 =>
  pif x5 (
    ldI .i64 w4 ((⟨b7, 0, none⟩ : Addr).add 0) fun x10 =>
    R (.int .i64 x10) w4) (
    R (.int .i64 (-1)) w4)
def An15 : An := .seq (.leaf) (.seq (.seq (.leaf) (.seq (.leaf) (.cond (.seq (.leaf) (.leaf)) (.leaf)))) (.seq (.leaf) (.leaf)))
theorem V15_eq (a0 : Option Addr) (a1 : Int) (w : World) (R : Value → World → Prop) : evF Try.prog Try.f15 An15 [.pointer a0, .int .i64 a1] w R = V15 a0 a1 w R := by kernel_rfl
theorem V15_calls (a0 : Option Addr) (a1 : Int) (w : World) (R : Value → World → Prop) (h : V15 a0 a1 w R) : Calls Try.prog 15 #[.pointer a0, .int .i64 a1] w fun e w' => ∃ v, e = .returned v ∧ R v w' :=
  calls_of_ev (args := [.pointer a0, .int .i64 a1]) Try.func15 (Nat.le_of_ble_eq_true (by kernel_rfl)) (by rw [V15_eq]; exact h)
theorem ok15 : fnOk Try.prog 15 = true := by kernel_rfl

/-! (*depot/trail.Trail).Reason -/
def V16 (a0 : Option Addr) (a1 : Int) (w : World) (R : Value → World → Prop) : Prop :=
  cl Try.prog 38 [.pointer a0, .int .i64 a1] w fun e6 w1 => ∃ x3 : Int, ∃ x4 : Int, ∃ x5 : Bool, e6 = Ending.returned (.tuple #[.agg #[.int .i64 x3, .int .i64 x4], .bool x5]) ∧
  alc w1 [.int .i64 0, .int .i64 0] 81 fun b7 w2 =>
  st w2 ((⟨b7, 0, none⟩ : Addr).add 0) (.int .i64 x3) fun w3 =>
  st w3 ((⟨b7, 0, none⟩ : Addr).add 1) (.int .i64 x4) fun w4 =>
  pif x5 (
    ldI .i64 w4 ((⟨b7, 0, none⟩ : Addr).add 1) fun x10 =>
    R (.int .i64 x10) w4) (
    R (.int .i64 (-1)) w4)
def An16 : An := .seq (.leaf) (.seq (.seq (.leaf) (.seq (.leaf) (.cond (.seq (.leaf) (.leaf)) (.leaf)))) (.seq (.leaf) (.leaf)))
theorem V16_eq (a0 : Option Addr) (a1 : Int) (w : World) (R : Value → World → Prop) : evF Try.prog Try.f16 An16 [.pointer a0, .int .i64 a1] w R = V16 a0 a1 w R := by kernel_rfl
theorem V16_calls (a0 : Option Addr) (a1 : Int) (w : World) (R : Value → World → Prop) (h : V16 a0 a1 w R) : Calls Try.prog 16 #[.pointer a0, .int .i64 a1] w fun e w' => ∃ v, e = .returned v ∧ R v w' :=
  calls_of_ev (args := [.pointer a0, .int .i64 a1]) Try.func16 (Nat.le_of_ble_eq_true (by kernel_rfl)) (by rw [V16_eq]; exact h)
theorem ok16 : fnOk Try.prog 16 = true := by kernel_rfl

/-! depot/depotlaw05.begun -/
def V17 (a0 : Int) (a1 : Option Addr) (a1n : Nat) (a1c : Nat) (w : World) (R : Value → World → Prop) : Prop :=
  cl Try.prog 23 [.int .i64 a0, .int .i64 41] w fun e4 w1 => ∃ x3 : Int, e4 = Ending.returned (.int .i64 x3) ∧
  cl Try.prog 9 [.int .i64 x3] w1 fun e7 w2 => ∃ x5 : Option Addr, ∃ x6 : Int, e7 = Ending.returned (.tuple #[.pointer x5, .int .i64 x6]) ∧
  pif (cond (x6 != 0) true (Option.isNone x5)) (
    R (.pointer none) w2) (
    cl Try.prog 22 [.pointer x5, .slice a1 a1n a1c, .int .i64 0] w2 fun e11 w3 => e11 = Ending.returned (.tuple #[]) ∧
    R (.pointer x5) w3)
def An17 : An := .seq (.leaf) (.seq (.leaf) (.seq (.seq (.leaf) (.cond (.seq (.leaf) (.leaf)) (.leaf))) (.seq (.leaf) (.seq (.leaf) (.leaf)))))
theorem V17_eq (a0 : Int) (a1 : Option Addr) (a1n : Nat) (a1c : Nat) (w : World) (R : Value → World → Prop) : evF Try.prog Try.f17 An17 [.int .i64 a0, .slice a1 a1n a1c] w R = V17 a0 a1 a1n a1c w R := by kernel_rfl
theorem V17_calls (a0 : Int) (a1 : Option Addr) (a1n : Nat) (a1c : Nat) (w : World) (R : Value → World → Prop) (h : V17 a0 a1 a1n a1c w R) : Calls Try.prog 17 #[.int .i64 a0, .slice a1 a1n a1c] w fun e w' => ∃ v, e = .returned v ∧ R v w' :=
  calls_of_ev (args := [.int .i64 a0, .slice a1 a1n a1c]) Try.func17 (Nat.le_of_ble_eq_true (by kernel_rfl)) (by rw [V17_eq]; exact h)
theorem ok17 : fnOk Try.prog 17 = true := by kernel_rfl

/-! (*depot/trail.Trail).Decide -/
def V18 (a0 : Option Addr) (a1 : Int) (w : World) (R : Value → World → Prop) : Prop :=
  cl Try.prog 39 [.pointer a0, .int .i64 a1] w fun e4 w1 => ∃ x3 : Int, e4 = Ending.returned (.int .i64 x3) ∧
  pif (x3 != 0) (
    R (.int .i64 x3) w1) (
    nn a0 fun p7 =>
    ldC (World.drew w1) (p7.add 1) fun x8 x8n x8c =>
    nn a0 fun p9 =>
    ldC (World.drew w1) (p9.add 0) fun x10 x10n x10c =>
    alc (World.drew w1) [.int .i64 (x10n : Int)] 77 fun b11 w2 =>
    (
      ldC w2 (p7.add 1) fun x12 x12n x12c =>
      ((.slice x12 x12n x12c : Value) = .slice x8 x8n x8c)) ∧
    ∃ (x13 : Option Addr) (x13n x13c : Nat), ∃ w3 : World, (Builtin.append_ #[71, 71] 71 #[.slice x8 x8n x8c, .slice (some (⟨b11, 0, none⟩ : Addr)) 1 1]).run Try.prog w2 = .ok (.slice x13 x13n x13c) w3 ∧
    nn a0 fun p14 =>
    st w3 ((p14.add 1).add 0) (.slice x13 x13n x13c) fun w4 =>
    cl Try.prog 40 [.pointer a0, .int .i64 a1, .int .i64 (-1)] w4 fun e16 w5 => e16 = Ending.returned (.tuple #[]) ∧
    R (.int .i64 0) w5)
def An18 : An := .seq (.leaf) (.seq (.seq (.leaf) (.seq (.leaf) (.cond (.seq (.leaf) (.leaf)) (.leaf)))) (.seq (.draw [0, 0, 2, 6, 14, 0, 32, 96, 224, 480, 992, 2016, 4064, 8190, 16383, 32767, 65535]) (.seq (.leaf) (.seq (.leaf) (.leaf)))))
theorem V18_eq (a0 : Option Addr) (a1 : Int) (w : World) (R : Value → World → Prop) : evF Try.prog Try.f18 An18 [.pointer a0, .int .i64 a1] w R = V18 a0 a1 w R := by kernel_rfl
theorem V18_calls (a0 : Option Addr) (a1 : Int) (w : World) (R : Value → World → Prop) (h : V18 a0 a1 w R) : Calls Try.prog 18 #[.pointer a0, .int .i64 a1] w fun e w' => ∃ v, e = .returned v ∧ R v w' :=
  calls_of_ev (args := [.pointer a0, .int .i64 a1]) Try.func18 (Nat.le_of_ble_eq_true (by kernel_rfl)) (by rw [V18_eq]; exact h)
theorem ok18 : fnOk Try.prog 18 = true := by kernel_rfl

/-! depot/depotref00.SameInts -/
def V19 (a0 : Option Addr) (a0n : Nat) (a0c : Nat) (a1 : Option Addr) (a1n : Nat) (a1c : Nat) (w : World) (R : Value → World → Prop) : Prop :=
  pif ((a0n : Int) != (a1n : Int)) (
    R (.bool false) w) (
    lp (σ := Int × Unit) (fun s7 w1 k6 => match s7 with
      | (v5, _) =>
      pif (decide (v5 < (a0n : Int))) (
        ixA a0 a0n v5 1 fun p9 =>
        ldI .i64 (World.drew w1) p9 fun x10 =>
        ixA a1 a1n v5 1 fun p11 =>
        ldI .i64 (World.drew w1) p11 fun x12 =>
        pif (x10 != x12) (
          R (.bool false) (World.drew w1)) (
          k6 ((IntKind.wrap .i64 (v5 + 1)), ()) (World.drew w1))) (
        R (.bool true) w1)) (0, ()) w)
def An19 : An := .seq (.leaf) (.seq (.seq (.leaf) (.cond (.seq (.leaf) (.leaf)) (.leaf))) (.seq (.seq (.leaf) (.blk (.loop [(5, .one (.int .i64))] (.seq (.seq (.leaf) (.cond (.leaf) (.leaf))) (.seq (.blk (.seq (.draw [0, 0, 3, 7, 0, 0, 48, 112, 255]) (.cond (.seq (.leaf) (.leaf)) (.leaf)))) (.leaf)))))) (.seq (.leaf) (.leaf))))
theorem V19_eq (a0 : Option Addr) (a0n : Nat) (a0c : Nat) (a1 : Option Addr) (a1n : Nat) (a1c : Nat) (w : World) (R : Value → World → Prop) : evF Try.prog Try.f19 An19 [.slice a0 a0n a0c, .slice a1 a1n a1c] w R = V19 a0 a0n a0c a1 a1n a1c w R := by kernel_rfl
theorem V19_calls (a0 : Option Addr) (a0n : Nat) (a0c : Nat) (a1 : Option Addr) (a1n : Nat) (a1c : Nat) (w : World) (R : Value → World → Prop) (h : V19 a0 a0n a0c a1 a1n a1c w R) : Calls Try.prog 19 #[.slice a0 a0n a0c, .slice a1 a1n a1c] w fun e w' => ∃ v, e = .returned v ∧ R v w' :=
  calls_of_ev (args := [.slice a0 a0n a0c, .slice a1 a1n a1c]) Try.func19 (Nat.le_of_ble_eq_true (by kernel_rfl)) (by rw [V19_eq]; exact h)
theorem ok19 : fnOk Try.prog 19 = true := by kernel_rfl

/-! depot/depotlaw05.sayings -/
def V20 (a0 : Option Addr) (w : World) (R : Value → World → Prop) : Prop :=
  cl Try.prog 10 [.pointer a0] w fun e4 w1 => ∃ (x3 : Option Addr) (x3n x3c : Nat), e4 = Ending.returned (.slice x3 x3n x3c) ∧
  cl Try.prog 11 [.pointer a0] w1 fun e6 w2 => ∃ (x5 : Option Addr) (x5n x5c : Nat), e6 = Ending.returned (.slice x5 x5n x5c) ∧
  cl Try.prog 13 [.pointer a0] w2 fun e10 w3 => ∃ x9 : Int, e10 = Ending.returned (.int .i64 x9) ∧
  alc w3 [.int .i64 x9, .int .i64 (x3n : Int), .int .i64 (x5n : Int)] 3 fun b11 w4 =>
  ∃ (x12 : Option Addr) (x12n x12c : Nat), ∃ w5 : World, (Builtin.append_ #[26, 26] 26 #[.slice none 0 0, .slice (some (⟨b11, 0, none⟩ : Addr)) 3 3]).run Try.prog w4 = .ok (.slice x12 x12n x12c) w5 ∧
  lp (σ := (Option Addr × Nat × Nat) × Int × Unit) (fun s17 w6 k16 => match s17 with
    | ((v14, v14n, v14c), v15, _) =>
    pif (decide (v15 < (x3n : Int))) (
      ixA x3 x3n v15 1 fun p20 =>
      ldI .i64 w6 p20 fun x21 =>
      alc w6 [.int .i64 x21] 3 fun b22 w7 =>
      ∃ (x23 : Option Addr) (x23n x23c : Nat), ∃ w8 : World, (Builtin.append_ #[26, 26] 26 #[.slice v14 v14n v14c, .slice (some (⟨b22, 0, none⟩ : Addr)) 1 1]).run Try.prog w7 = .ok (.slice x23 x23n x23c) w8 ∧
      k16 ((x23, x23n, x23c), (IntKind.wrap .i64 (v15 + 1)), ()) w8) (
      lp (σ := (Option Addr × Nat × Nat) × Int × Unit) (fun s29 w9 k28 => match s29 with
        | ((v26, v26n, v26c), v27, _) =>
        pif (decide (v27 < (x5n : Int))) (
          ixA x5 x5n v27 1 fun p32 =>
          ldI .i64 w9 p32 fun x33 =>
          alc w9 [.int .i64 x33] 3 fun b34 w10 =>
          ∃ (x35 : Option Addr) (x35n x35c : Nat), ∃ w11 : World, (Builtin.append_ #[26, 26] 26 #[.slice v26 v26n v26c, .slice (some (⟨b34, 0, none⟩ : Addr)) 1 1]).run Try.prog w10 = .ok (.slice x35 x35n x35c) w11 ∧
          k28 ((x35, x35n, x35c), (IntKind.wrap .i64 (v27 + 1)), ()) w11) (
          lp (σ := (Option Addr × Nat × Nat) × Int × Unit) (fun s41 w12 k40 => match s41 with
            | ((v38, v38n, v38c), v39, _) =>
            pif (decide (v39 ≤ 43)) (
              cl Try.prog 14 [.pointer a0, .int .i64 v39] w12 fun e45 w13 => ∃ x44 : Int, e45 = Ending.returned (.int .i8 x44) ∧
              cl Try.prog 15 [.pointer a0, .int .i64 v39] w13 fun e47 w14 => ∃ x46 : Int, e47 = Ending.returned (.int .i64 x46) ∧
              cl Try.prog 16 [.pointer a0, .int .i64 v39] w14 fun e49 w15 => ∃ x48 : Int, e49 = Ending.returned (.int .i64 x48) ∧
              alc w15 [.int .i64 (IntKind.wrap .i64 x44), .int .i64 x46, .int .i64 x48] 3 fun b50 w16 =>
              ∃ (x51 : Option Addr) (x51n x51c : Nat), ∃ w17 : World, (Builtin.append_ #[26, 26] 26 #[.slice v38 v38n v38c, .slice (some (⟨b50, 0, none⟩ : Addr)) 3 3]).run Try.prog w16 = .ok (.slice x51 x51n x51c) w17 ∧
              k40 ((x51, x51n, x51c), (IntKind.wrap .i64 (v39 + 1)), ()) w17) (
              R (.slice v38 v38n v38c) w12)) ((v26, v26n, v26c), (-43), ()) w9)) ((v14, v14n, v14c), 0, ()) w6)) ((x12, x12n, x12c), 0, ()) w5
def An20 : An := .seq (.leaf) (.seq (.leaf) (.seq (.leaf) (.seq (.leaf) (.seq (.seq (.leaf) (.blk (.loop [(5, .one (.slc)), (6, .one (.int .i64))] (.seq (.seq (.leaf) (.cond (.leaf) (.leaf))) (.seq (.blk (.leaf)) (.leaf)))))) (.seq (.seq (.leaf) (.blk (.loop [(5, .one (.slc)), (7, .one (.int .i64))] (.seq (.seq (.leaf) (.cond (.leaf) (.leaf))) (.seq (.blk (.leaf)) (.leaf)))))) (.seq (.seq (.leaf) (.blk (.loop [(5, .one (.slc)), (8, .one (.int .i64))] (.seq (.seq (.leaf) (.cond (.leaf) (.leaf))) (.seq (.blk (.leaf)) (.leaf)))))) (.seq (.leaf) (.leaf))))))))
theorem V20_eq (a0 : Option Addr) (w : World) (R : Value → World → Prop) : evF Try.prog Try.f20 An20 [.pointer a0] w R = V20 a0 w R := by kernel_rfl
theorem V20_calls (a0 : Option Addr) (w : World) (R : Value → World → Prop) (h : V20 a0 w R) : Calls Try.prog 20 #[.pointer a0] w fun e w' => ∃ v, e = .returned v ∧ R v w' :=
  calls_of_ev (args := [.pointer a0]) Try.func20 (Nat.le_of_ble_eq_true (by kernel_rfl)) (by rw [V20_eq]; exact h)
theorem ok20 : fnOk Try.prog 20 = true := by kernel_rfl

/-! depot/depotlaw05.live -/
def V21  (w : World) (R : Value → World → Prop) : Prop :=
  cl Try.prog 9 [.int .i64 2] w fun e5 w1 => ∃ x3 : Option Addr, ∃ x4 : Int, e5 = Ending.returned (.tuple #[.pointer x3, .int .i64 x4]) ∧
  gd (α := Int) (!(cond (Option.isNone x3) true (x4 != 0))) (fun k7 =>
    cl Try.prog 18 [.pointer x3, .int .i64 (-2)] w1 fun e9 w2 => ∃ x8 : Int, e9 = Ending.returned (.int .i64 x8) ∧
    k7 x8 w2) 0 w1 fun x10 w3 =>
  gd (α := Int) (!(cond (cond (Option.isNone x3) true (x4 != 0)) true (x10 != 0))) (fun k11 =>
    cl Try.prog 26 [.pointer x3, .int .i64 1, .int .i64 5] w3 fun e13 w4 => ∃ x12 : Int, e13 = Ending.returned (.int .i64 x12) ∧
    k11 x12 w4) 0 w3 fun x14 w5 =>
  pif (cond (cond (cond (Option.isNone x3) true (x4 != 0)) true (x10 != 0)) true (x14 != 0)) (
    R (.bool false) w5) (
    cl Try.prog 14 [.pointer x3, .int .i64 2] w5 fun e18 w6 => ∃ x17 : Int, e18 = Ending.returned (.int .i8 x17) ∧
    gd (α := Int) (x17 == (-1)) (fun k19 =>
      cl Try.prog 14 [.pointer x3, .int .i64 1] w6 fun e21 w7 => ∃ x20 : Int, e21 = Ending.returned (.int .i8 x20) ∧
      k19 x20 w7) 0 w6 fun x22 w8 =>
    gd (α := Int) (cond (x17 == (-1)) (x22 == 1) false) (fun k23 =>
      cl Try.prog 13 [.pointer x3] w8 fun e25 w9 => ∃ x24 : Int, e25 = Ending.returned (.int .i64 x24) ∧
      k23 x24 w9) 0 w8 fun x26 w10 =>
    gd (α := Int) (cond (cond (x17 == (-1)) (x22 == 1) false) (x26 == 1) false) (fun k27 =>
      cl Try.prog 16 [.pointer x3, .int .i64 1] w10 fun e29 w11 => ∃ x28 : Int, e29 = Ending.returned (.int .i64 x28) ∧
      k27 x28 w11) 0 w10 fun x30 w12 =>
    R (.bool (cond (cond (cond (x17 == (-1)) (x22 == 1) false) (x26 == 1) false) (x30 == 5) false)) w12)
def An21 : An := .seq (.leaf) (.seq (.leaf) (.seq (.seq (.leaf) (.cond (.seq (.leaf) (.leaf)) (.leaf))) (.seq (.leaf) (.leaf))))
theorem V21_eq  (w : World) (R : Value → World → Prop) : evF Try.prog Try.f21 An21 [] w R = V21  w R := by kernel_rfl
theorem V21_calls  (w : World) (R : Value → World → Prop) (h : V21  w R) : Calls Try.prog 21 #[] w fun e w' => ∃ v, e = .returned v ∧ R v w' :=
  calls_of_ev (args := []) Try.func21 (Nat.le_of_ble_eq_true (by kernel_rfl)) (by rw [V21_eq]; exact h)
theorem ok21 : fnOk Try.prog 21 = true := by kernel_rfl

/-! depot/depotlaw05.act -/
def V22 (a0 : Option Addr) (a1 : Option Addr) (a1n : Nat) (a1c : Nat) (a2 : Int) (w : World) (R : Value → World → Prop) : Prop :=
  lp (σ := Int × Unit) (fun s4 w1 k3 => match s4 with
    | (v2, _) =>
    pif (decide (v2 < (a1n : Int))) (
      jn (σ := Unit) (fun k6 =>
        ixA a1 a1n v2 5 fun p9 =>
        ldI .i64 w1 (p9.add 1) fun x10 =>
        cl Try.prog 23 [.int .i64 x10, .int .i64 3] w1 fun e12 w3 => ∃ x11 : Int, e12 = Ending.returned (.int .i64 x11) ∧
        pif (x11 == 0) (
          ixA a1 a1n v2 5 fun p15 =>
          ldI .i64 w3 (p15.add 2) fun x16 =>
          cl Try.prog 18 [.pointer a0, .int .i64 x16] w3 fun e18 w4 => ∃ x17 : Int, e18 = Ending.returned (.int .i64 x17) ∧
          k6 (()) w4) (
          pif (x11 == 1) (
            ixA a1 a1n v2 5 fun p20 =>
            ldI .i64 (World.drew w3) (p20.add 2) fun x21 =>
            ixA a1 a1n v2 5 fun p22 =>
            ldI .i64 (World.drew w3) (p22.add 3) fun x23 =>
            cl Try.prog 26 [.pointer a0, .int .i64 x21, .int .i64 x23] (World.drew w3) fun e25 w5 => ∃ x24 : Int, e25 = Ending.returned (.int .i64 x24) ∧
            k6 (()) w5) (
            ixA a1 a1n v2 5 fun p27 =>
            ldI .i64 w3 (p27.add 2) fun x28 =>
            jn (σ := Int × Unit) (fun k30 =>
              pif (decide (x28 < a2)) (
                k30 (a2, ()) w3) (
                k30 (x28, ()) w3)) fun s31 w6 => match s31 with
            | (v29, _) =>
            cl Try.prog 12 [.pointer a0, .int .i64 v29] w6 fun e37 w7 => ∃ (x35 : Option Addr) (x35n x35c : Nat), ∃ x36 : Int, e37 = Ending.returned (.tuple #[.slice x35 x35n x35c, .int .i64 x36]) ∧
            k6 (()) w7))) fun s7 w2 => match s7 with
      | (_) =>
      k3 ((IntKind.wrap .i64 (v2 + 1)), ()) w2) (
      R (.tuple #[]) w1)) (0, ()) w
def An22 : An := .seq (.leaf) (.blk (.loop [(6, .one (.int .i64))] (.seq (.seq (.leaf) (.cond (.leaf) (.leaf))) (.seq (.join [] (.blk (.seq (.leaf) (.blk (.seq (.leaf) (.cond (.leaf) (.seq (.leaf) (.cond (.draw [0, 0, 0, 6, 14, 30, 0, 0, 192, 448, 960, 2047]) (.seq (.leaf) (.seq (.join [(7, .one (.int .i64))] (.seq (.leaf) (.cond (.leaf) (.leaf)))) (.leaf))))))))))) (.leaf)))))
theorem V22_eq (a0 : Option Addr) (a1 : Option Addr) (a1n : Nat) (a1c : Nat) (a2 : Int) (w : World) (R : Value → World → Prop) : evF Try.prog Try.f22 An22 [.pointer a0, .slice a1 a1n a1c, .int .i64 a2] w R = V22 a0 a1 a1n a1c a2 w R := by kernel_rfl
theorem V22_calls (a0 : Option Addr) (a1 : Option Addr) (a1n : Nat) (a1c : Nat) (a2 : Int) (w : World) (R : Value → World → Prop) (h : V22 a0 a1 a1n a1c a2 w R) : Calls Try.prog 22 #[.pointer a0, .slice a1 a1n a1c, .int .i64 a2] w fun e w' => ∃ v, e = .returned v ∧ R v w' :=
  calls_of_ev (args := [.pointer a0, .slice a1 a1n a1c, .int .i64 a2]) Try.func22 (Nat.le_of_ble_eq_true (by kernel_rfl)) (by rw [V22_eq]; exact h)
theorem ok22 : fnOk Try.prog 22 = true := by kernel_rfl

/-! depot/depotkit.Pick -/
def V23 (a0 : Int) (a1 : Int) (w : World) (R : Value → World → Prop) : Prop :=
  a1 ≠ 0 ∧
  jn (σ := Int × Unit) (fun k4 =>
    pif (decide ((Int.tmod a0 a1) < 0)) (
      k4 ((IntKind.wrap .i64 ((Int.tmod a0 a1) + a1)), ()) w) (
      k4 ((Int.tmod a0 a1), ()) w)) fun s5 w1 => match s5 with
  | (v3, _) =>
  R (.int .i64 v3) w1
def An23 : An := .seq (.leaf) (.seq (.leaf) (.seq (.join [(0, .one (.int .i64))] (.seq (.leaf) (.cond (.leaf) (.leaf)))) (.seq (.leaf) (.leaf))))
theorem V23_eq (a0 : Int) (a1 : Int) (w : World) (R : Value → World → Prop) : evF Try.prog Try.f23 An23 [.int .i64 a0, .int .i64 a1] w R = V23 a0 a1 w R := by kernel_rfl
theorem V23_calls (a0 : Int) (a1 : Int) (w : World) (R : Value → World → Prop) (h : V23 a0 a1 w R) : Calls Try.prog 23 #[.int .i64 a0, .int .i64 a1] w fun e w' => ∃ v, e = .returned v ∧ R v w' :=
  calls_of_ev (args := [.int .i64 a0, .int .i64 a1]) Try.func23 (Nat.le_of_ble_eq_true (by kernel_rfl)) (by rw [V23_eq]; exact h)
theorem ok23 : fnOk Try.prog 23 = true := by kernel_rfl

/-! (*depot/trail.Trail).Look -/
def V24 (a0 : Option Addr) (a1 : Option Addr) (a1n : Nat) (a1c : Nat) (w : World) (R : Value → World → Prop) : Prop :=
  lp (σ := Int × Unit) (fun s5 w1 k4 => match s5 with
    | (v3, _) =>
    pif (decide (v3 < (a1n : Int))) (
      ixA a1 a1n v3 1 fun p8 =>
      ldI .i64 w1 p8 fun x9 =>
      cl Try.prog 37 [.pointer a0, .int .i64 x9] w1 fun e13 w2 => ∃ x11 : Int, ∃ x12 : Bool, e13 = Ending.returned (.tuple #[.int .i64 x11, .bool x12]) ∧
      pif (!x12) (
        R (.tuple #[.int .i8 0, .int .i64 0]) w2) (
        k4 ((IntKind.wrap .i64 (v3 + 1)), ()) w2)) (
      lp (σ := Int × Bool × Int × Unit) (fun s23 w3 k22 => match s23 with
        | (v19, v20, v21, _) =>
        pif (decide (v21 < (a1n : Int))) (
          jn (σ := Int × Bool × Unit) (fun k27 =>
            ixA a1 a1n v21 1 fun p30 =>
            ldI .i64 w3 p30 fun x31 =>
            cl Try.prog 14 [.pointer a0, .int .i64 x31] w3 fun e34 w5 => ∃ x33 : Int, e34 = Ending.returned (.int .i8 x33) ∧
            pif (x33 == 1) (
              R (.tuple #[.int .i8 1, .int .i64 x31]) w5) (
              pif (x33 == 0) (
                k27 (x31, (cond v20 true (cond (v19 != 0) (v19 != x31) false)), ()) w5) (
                k27 (v19, v20, ()) w5))) fun s28 w4 => match s28 with
          | (v25, v26, _) =>
          k22 (v25, v26, (IntKind.wrap .i64 (v21 + 1)), ()) w4) (
          pif v20 (
            R (.tuple #[.int .i8 0, .int .i64 0]) w3) (
            pif (v19 == 0) (
              R (.tuple #[.int .i8 (-1), .int .i64 0]) w3) (
              R (.tuple #[.int .i8 2, .int .i64 v19]) w3)))) (0, false, 0, ()) w1)) (0, ()) w
def An24 : An := .seq (.leaf) (.seq (.seq (.leaf) (.blk (.loop [(16, .one (.int .i64))] (.seq (.leaf) (.seq (.cond (.leaf) (.leaf)) (.seq (.blk (.seq (.leaf) (.seq (.leaf) (.seq (.leaf) (.cond (.seq (.leaf) (.leaf)) (.leaf)))))) (.leaf))))))) (.seq (.leaf) (.seq (.seq (.leaf) (.blk (.loop [(10, .one (.int .i64)), (11, .one (.bool)), (31, .one (.int .i64))] (.seq (.leaf) (.seq (.cond (.leaf) (.leaf)) (.seq (.join [(10, .one (.int .i64)), (11, .one (.bool))] (.blk (.seq (.leaf) (.seq (.leaf) (.blk (.seq (.leaf) (.cond (.seq (.leaf) (.leaf)) (.seq (.leaf) (.cond (.seq (.leaf) (.leaf)) (.leaf)))))))))) (.leaf))))))) (.seq (.blk (.seq (.leaf) (.cond (.seq (.leaf) (.leaf)) (.seq (.leaf) (.cond (.seq (.leaf) (.leaf)) (.leaf)))))) (.seq (.leaf) (.leaf))))))
theorem V24_eq (a0 : Option Addr) (a1 : Option Addr) (a1n : Nat) (a1c : Nat) (w : World) (R : Value → World → Prop) : evF Try.prog Try.f24 An24 [.pointer a0, .slice a1 a1n a1c] w R = V24 a0 a1 a1n a1c w R := by kernel_rfl
theorem V24_calls (a0 : Option Addr) (a1 : Option Addr) (a1n : Nat) (a1c : Nat) (w : World) (R : Value → World → Prop) (h : V24 a0 a1 a1n a1c w R) : Calls Try.prog 24 #[.pointer a0, .slice a1 a1n a1c] w fun e w' => ∃ v, e = .returned v ∧ R v w' :=
  calls_of_ev (args := [.pointer a0, .slice a1 a1n a1c]) Try.func24 (Nat.le_of_ble_eq_true (by kernel_rfl)) (by rw [V24_eq]; exact h)
theorem ok24 : fnOk Try.prog 24 = true := by kernel_rfl

/-! depot/depotlaw05.alone -/
def V25 (a0 : Option Addr) (a1 : Option Addr) (a1n : Nat) (a1c : Nat) (a2 : Int) (w : World) (R : Value → World → Prop) : Prop :=
  lp (σ := Int × Unit) (fun s5 w1 k4 => match s5 with
    | (v3, _) =>
    pif (decide (v3 < (a1n : Int))) (
      ixA a1 a1n v3 1 fun p8 =>
      ldI .i64 w1 p8 fun x9 =>
      cl Try.prog 14 [.pointer a0, .int .i64 x9] w1 fun e11 w2 => ∃ x10 : Int, e11 = Ending.returned (.int .i8 x10) ∧
      gd (α := Addr) (x10 == 0) (fun k12 =>
        ixA a1 a1n v3 1 fun p13 =>
        k12 p13 w2) ⟨0, 0, none⟩ w2 fun x14 w3 =>
      gd (α := Int) (x10 == 0) (fun k15 =>
        ldI .i64 w3 x14 fun x16 =>
        k15 x16 w3) 0 w3 fun x17 w4 =>
      pif (cond (x10 == 0) (x17 != a2) false) (
        R (.bool false) w4) (
        k4 ((IntKind.wrap .i64 (v3 + 1)), ()) w4)) (
      R (.bool true) w1)) (0, ()) w
def An25 : An := .seq (.leaf) (.seq (.seq (.leaf) (.blk (.loop [(7, .one (.int .i64))] (.seq (.seq (.leaf) (.cond (.leaf) (.leaf))) (.seq (.blk (.seq (.leaf) (.cond (.seq (.leaf) (.leaf)) (.leaf)))) (.leaf)))))) (.seq (.leaf) (.leaf)))
theorem V25_eq (a0 : Option Addr) (a1 : Option Addr) (a1n : Nat) (a1c : Nat) (a2 : Int) (w : World) (R : Value → World → Prop) : evF Try.prog Try.f25 An25 [.pointer a0, .slice a1 a1n a1c, .int .i64 a2] w R = V25 a0 a1 a1n a1c a2 w R := by kernel_rfl
theorem V25_calls (a0 : Option Addr) (a1 : Option Addr) (a1n : Nat) (a1c : Nat) (a2 : Int) (w : World) (R : Value → World → Prop) (h : V25 a0 a1 a1n a1c a2 w R) : Calls Try.prog 25 #[.pointer a0, .slice a1 a1n a1c, .int .i64 a2] w fun e w' => ∃ v, e = .returned v ∧ R v w' :=
  calls_of_ev (args := [.pointer a0, .slice a1 a1n a1c, .int .i64 a2]) Try.func25 (Nat.le_of_ble_eq_true (by kernel_rfl)) (by rw [V25_eq]; exact h)
theorem ok25 : fnOk Try.prog 25 = true := by kernel_rfl

/-! (*depot/trail.Trail).Imply -/
def V26 (a0 : Option Addr) (a1 : Int) (a2 : Int) (w : World) (R : Value → World → Prop) : Prop :=
  cl Try.prog 39 [.pointer a0, .int .i64 a1] w fun e4 w1 => ∃ x3 : Int, e4 = Ending.returned (.int .i64 x3) ∧
  pif (x3 != 0) (
    R (.int .i64 x3) w1) (
    pif (decide (a2 < 0)) (
      R (.int .i64 2) w1) (
      cl Try.prog 40 [.pointer a0, .int .i64 a1, .int .i64 a2] w1 fun e10 w2 => e10 = Ending.returned (.tuple #[]) ∧
      R (.int .i64 0) w2))
def An26 : An := .seq (.leaf) (.seq (.seq (.leaf) (.seq (.leaf) (.cond (.seq (.leaf) (.leaf)) (.leaf)))) (.seq (.seq (.leaf) (.cond (.seq (.leaf) (.leaf)) (.leaf))) (.seq (.leaf) (.seq (.leaf) (.leaf)))))
theorem V26_eq (a0 : Option Addr) (a1 : Int) (a2 : Int) (w : World) (R : Value → World → Prop) : evF Try.prog Try.f26 An26 [.pointer a0, .int .i64 a1, .int .i64 a2] w R = V26 a0 a1 a2 w R := by kernel_rfl
theorem V26_calls (a0 : Option Addr) (a1 : Int) (a2 : Int) (w : World) (R : Value → World → Prop) (h : V26 a0 a1 a2 w R) : Calls Try.prog 26 #[.pointer a0, .int .i64 a1, .int .i64 a2] w fun e w' => ∃ v, e = .returned v ∧ R v w' :=
  calls_of_ev (args := [.pointer a0, .int .i64 a1, .int .i64 a2]) Try.func26 (Nat.le_of_ble_eq_true (by kernel_rfl)) (by rw [V26_eq]; exact h)
theorem ok26 : fnOk Try.prog 26 = true := by kernel_rfl

/-! depot/depotref05.New -/
def V27 (a0 : Int) (w : World) (R : Value → World → Prop) : Prop :=
  pif (cond (decide (a0 < 0)) true (decide (a0 > 1048576))) (
    R (.tuple #[.pointer none, .int .i64 2]) w) (
    alc w [.int .i64 a0, .slice none 0 0, .int .i64 0] 87 fun b5 w1 =>
    R (.tuple #[.pointer (some (⟨b5, 0, none⟩ : Addr)), .int .i64 0]) w1)
def An27 : An := .seq (.leaf) (.seq (.seq (.leaf) (.cond (.seq (.leaf) (.leaf)) (.leaf))) (.seq (.leaf) (.leaf)))
theorem V27_eq (a0 : Int) (w : World) (R : Value → World → Prop) : evF Try.prog Try.f27 An27 [.int .i64 a0] w R = V27 a0 w R := by kernel_rfl
theorem V27_calls (a0 : Int) (w : World) (R : Value → World → Prop) (h : V27 a0 w R) : Calls Try.prog 27 #[.int .i64 a0] w fun e w' => ∃ v, e = .returned v ∧ R v w' :=
  calls_of_ev (args := [.int .i64 a0]) Try.func27 (Nat.le_of_ble_eq_true (by kernel_rfl)) (by rw [V27_eq]; exact h)
theorem ok27 : fnOk Try.prog 27 = true := by kernel_rfl

/-! (*depot/depotref05.Trail).Decide -/
def V28 (a0 : Option Addr) (a1 : Int) (w : World) (R : Value → World → Prop) : Prop :=
  cl Try.prog 41 [.pointer a0, .int .i64 a1] w fun e4 w1 => ∃ x3 : Bool, e4 = Ending.returned (.bool x3) ∧
  pif (!x3) (
    R (.int .i64 1) w1) (
    cl Try.prog 42 [.pointer a0, .int .i64 a1] w1 fun e8 w2 => ∃ x7 : Int, e8 = Ending.returned (.int .i64 x7) ∧
    pif (decide (x7 ≥ 0)) (
      R (.int .i64 50) w2) (
      nn a0 fun p11 =>
      ldI .i64 w2 (p11.add 2) fun x12 =>
      nn a0 fun p13 =>
      st w2 ((p13.add 2).add 0) (.int .i64 (IntKind.wrap .i64 (x12 + 1))) fun w3 =>
      nn a0 fun p14 =>
      ldC (World.drew w3) (p14.add 1) fun x15 x15n x15c =>
      nn a0 fun p16 =>
      ldI .i64 (World.drew w3) (p16.add 2) fun x17 =>
      alc (World.drew w3) [.int .i64 a1, .int .i64 x17, .int .i64 (-1)] 90 fun b18 w4 =>
      (
        ldC w4 (p14.add 1) fun x19 x19n x19c =>
        ((.slice x19 x19n x19c : Value) = .slice x15 x15n x15c)) ∧
      ∃ (x20 : Option Addr) (x20n x20c : Nat), ∃ w5 : World, (Builtin.append_ #[85, 85] 85 #[.slice x15 x15n x15c, .slice (some (⟨b18, 0, none⟩ : Addr)) 1 1]).run Try.prog w4 = .ok (.slice x20 x20n x20c) w5 ∧
      nn a0 fun p21 =>
      st w5 ((p21.add 1).add 0) (.slice x20 x20n x20c) fun w6 =>
      R (.int .i64 0) w6))
def An28 : An := .seq (.leaf) (.seq (.seq (.leaf) (.cond (.seq (.leaf) (.leaf)) (.leaf))) (.seq (.seq (.leaf) (.cond (.seq (.leaf) (.leaf)) (.leaf))) (.seq (.leaf) (.seq (.draw [0, 0, 2, 6, 14, 0, 0, 64, 192, 448, 992, 2016, 4094, 8191, 16383, 32767]) (.seq (.leaf) (.leaf))))))
theorem V28_eq (a0 : Option Addr) (a1 : Int) (w : World) (R : Value → World → Prop) : evF Try.prog Try.f28 An28 [.pointer a0, .int .i64 a1] w R = V28 a0 a1 w R := by kernel_rfl
theorem V28_calls (a0 : Option Addr) (a1 : Int) (w : World) (R : Value → World → Prop) (h : V28 a0 a1 w R) : Calls Try.prog 28 #[.pointer a0, .int .i64 a1] w fun e w' => ∃ v, e = .returned v ∧ R v w' :=
  calls_of_ev (args := [.pointer a0, .int .i64 a1]) Try.func28 (Nat.le_of_ble_eq_true (by kernel_rfl)) (by rw [V28_eq]; exact h)
theorem ok28 : fnOk Try.prog 28 = true := by kernel_rfl

/-! (*depot/depotref05.Trail).Imply -/
def V29 (a0 : Option Addr) (a1 : Int) (a2 : Int) (w : World) (R : Value → World → Prop) : Prop :=
  cl Try.prog 41 [.pointer a0, .int .i64 a1] w fun e4 w1 => ∃ x3 : Bool, e4 = Ending.returned (.bool x3) ∧
  pif (!x3) (
    R (.int .i64 1) w1) (
    cl Try.prog 42 [.pointer a0, .int .i64 a1] w1 fun e8 w2 => ∃ x7 : Int, e8 = Ending.returned (.int .i64 x7) ∧
    pif (decide (x7 ≥ 0)) (
      R (.int .i64 50) w2) (
      pif (decide (a2 < 0)) (
        R (.int .i64 2) w2) (
        nn a0 fun p12 =>
        ldC (World.drew w2) (p12.add 1) fun x13 x13n x13c =>
        nn a0 fun p14 =>
        ldI .i64 (World.drew w2) (p14.add 2) fun x15 =>
        alc (World.drew w2) [.int .i64 a1, .int .i64 x15, .int .i64 a2] 90 fun b16 w3 =>
        (
          ldC w3 (p12.add 1) fun x17 x17n x17c =>
          ((.slice x17 x17n x17c : Value) = .slice x13 x13n x13c)) ∧
        ∃ (x18 : Option Addr) (x18n x18c : Nat), ∃ w4 : World, (Builtin.append_ #[85, 85] 85 #[.slice x13 x13n x13c, .slice (some (⟨b16, 0, none⟩ : Addr)) 1 1]).run Try.prog w3 = .ok (.slice x18 x18n x18c) w4 ∧
        nn a0 fun p19 =>
        st w4 ((p19.add 1).add 0) (.slice x18 x18n x18c) fun w5 =>
        R (.int .i64 0) w5)))
def An29 : An := .seq (.leaf) (.seq (.seq (.leaf) (.cond (.seq (.leaf) (.leaf)) (.leaf))) (.seq (.seq (.leaf) (.cond (.seq (.leaf) (.leaf)) (.leaf))) (.seq (.seq (.leaf) (.cond (.seq (.leaf) (.leaf)) (.leaf))) (.seq (.draw [0, 0, 2, 6, 14, 0, 0, 64, 192, 448, 0, 2016, 4064, 8190, 16383, 32767, 65535]) (.seq (.leaf) (.leaf))))))
theorem V29_eq (a0 : Option Addr) (a1 : Int) (a2 : Int) (w : World) (R : Value → World → Prop) : evF Try.prog Try.f29 An29 [.pointer a0, .int .i64 a1, .int .i64 a2] w R = V29 a0 a1 a2 w R := by kernel_rfl
theorem V29_calls (a0 : Option Addr) (a1 : Int) (a2 : Int) (w : World) (R : Value → World → Prop) (h : V29 a0 a1 a2 w R) : Calls Try.prog 29 #[.pointer a0, .int .i64 a1, .int .i64 a2] w fun e w' => ∃ v, e = .returned v ∧ R v w' :=
  calls_of_ev (args := [.pointer a0, .int .i64 a1, .int .i64 a2]) Try.func29 (Nat.le_of_ble_eq_true (by kernel_rfl)) (by rw [V29_eq]; exact h)
theorem ok29 : fnOk Try.prog 29 = true := by kernel_rfl

/-! (*depot/depotref05.Trail).Back -/
def V30 (a0 : Option Addr) (a1 : Int) (w : World) (R : Value → World → Prop) : Prop :=
  gd (α := Addr) (!(decide (a1 < 0))) (fun k3 =>
    nn a0 fun p4 =>
    k3 p4 w) ⟨0, 0, none⟩ w fun x5 w1 =>
  gd (α := Int) (!(decide (a1 < 0))) (fun k6 =>
    ldI .i64 w1 (x5.add 2) fun x7 =>
    k6 x7 w1) 0 w1 fun x8 w2 =>
  pif (cond (decide (a1 < 0)) true (decide (a1 > x8))) (
    R (.tuple #[.slice none 0 0, .int .i64 2]) w2) (
    nn a0 fun p13 =>
    ldC w2 (p13.add 1) fun x14 x14n x14c =>
    lp (σ := (Option Addr × Nat × Nat) × Int × Unit) (fun s18 w3 k17 => match s18 with
      | ((v15, v15n, v15c), v16, _) =>
      pif (decide (v16 ≥ 0)) (
        jn (σ := (Option Addr × Nat × Nat) × Unit) (fun k21 =>
          nn a0 fun p24 =>
          ldC w3 (p24.add 1) fun x25 x25n x25c =>
          ixA x25 x25n v16 3 fun p26 =>
          ldI .i64 w3 (p26.add 1) fun x27 =>
          pif (decide (x27 > a1)) (
            nn a0 fun p29 =>
            ldC w3 (p29.add 1) fun x30 x30n x30c =>
            ixA x30 x30n v16 3 fun p31 =>
            ldI .i64 w3 (p31.add 0) fun x32 =>
            alc w3 [.int .i64 x32] 3 fun b33 w5 =>
            ∃ (x34 : Option Addr) (x34n x34c : Nat), ∃ w6 : World, (Builtin.append_ #[26, 26] 26 #[.slice v15 v15n v15c, .slice (some (⟨b33, 0, none⟩ : Addr)) 1 1]).run Try.prog w5 = .ok (.slice x34 x34n x34c) w6 ∧
            k21 ((x34, x34n, x34c), ()) w6) (
            k21 ((v15, v15n, v15c), ()) w3)) fun s22 w4 => match s22 with
        | ((v20, v20n, v20c), _) =>
        k17 ((v20, v20n, v20c), (IntKind.wrap .i64 (v16 - 1)), ()) w4) (
        lp (σ := (Option Addr × Nat × Nat) × Int × Unit) (fun s40 w7 k39 => match s40 with
          | ((v37, v37n, v37c), v38, _) =>
          nn a0 fun p42 =>
          ldC w7 (p42.add 1) fun x43 x43n x43c =>
          pif (decide (v38 < (x43n : Int))) (
            jn (σ := (Option Addr × Nat × Nat) × Unit) (fun k45 =>
              nn a0 fun p48 =>
              ldC w7 (p48.add 1) fun x49 x49n x49c =>
              ixA x49 x49n v38 3 fun p50 =>
              ldI .i64 w7 (p50.add 1) fun x51 =>
              pif (decide (x51 ≤ a1)) (
                nn a0 fun p53 =>
                ldC w7 (p53.add 1) fun x54 x54n x54c =>
                ixA x54 x54n v38 3 fun p55 =>
                ldI .i64 w7 (p55.add 0) fun x56 =>
                ldI .i64 w7 (p55.add 1) fun x57 =>
                ldI .i64 w7 (p55.add 2) fun x58 =>
                alc w7 [.int .i64 x56, .int .i64 x57, .int .i64 x58] 90 fun b59 w9 =>
                ∃ (x60 : Option Addr) (x60n x60c : Nat), ∃ w10 : World, (Builtin.append_ #[85, 85] 85 #[.slice v37 v37n v37c, .slice (some (⟨b59, 0, none⟩ : Addr)) 1 1]).run Try.prog w9 = .ok (.slice x60 x60n x60c) w10 ∧
                k45 ((x60, x60n, x60c), ()) w10) (
                k45 ((v37, v37n, v37c), ()) w7)) fun s46 w8 => match s46 with
            | ((v44, v44n, v44c), _) =>
            k39 ((v44, v44n, v44c), (IntKind.wrap .i64 (v38 + 1)), ()) w8) (
            nn a0 fun p63 =>
            st w7 ((p63.add 1).add 0) (.slice v37 v37n v37c) fun w11 =>
            nn a0 fun p65 =>
            st w11 ((p65.add 2).add 0) (.int .i64 a1) fun w12 =>
            R (.tuple #[.slice v15 v15n v15c, .int .i64 0]) w12)) ((none, 0, 0), 0, ()) w3)) ((none, 0, 0), (IntKind.wrap .i64 ((x14n : Int) - 1)), ()) w2)
def An30 : An := .seq (.leaf) (.seq (.seq (.leaf) (.cond (.seq (.leaf) (.leaf)) (.leaf))) (.seq (.leaf) (.seq (.leaf) (.seq (.seq (.leaf) (.blk (.loop [(6, .one (.slc)), (8, .one (.int .i64))] (.seq (.seq (.leaf) (.cond (.leaf) (.leaf))) (.seq (.join [(6, .one (.slc))] (.blk (.seq (.leaf) (.cond (.leaf) (.leaf))))) (.leaf)))))) (.seq (.seq (.leaf) (.blk (.loop [(7, .one (.slc)), (9, .one (.int .i64))] (.seq (.seq (.leaf) (.cond (.leaf) (.leaf))) (.seq (.join [(7, .one (.slc))] (.blk (.seq (.leaf) (.cond (.leaf) (.leaf))))) (.leaf)))))) (.seq (.leaf) (.seq (.leaf) (.seq (.leaf) (.leaf)))))))))
theorem V30_eq (a0 : Option Addr) (a1 : Int) (w : World) (R : Value → World → Prop) : evF Try.prog Try.f30 An30 [.pointer a0, .int .i64 a1] w R = V30 a0 a1 w R := by kernel_rfl
theorem V30_calls (a0 : Option Addr) (a1 : Int) (w : World) (R : Value → World → Prop) (h : V30 a0 a1 w R) : Calls Try.prog 30 #[.pointer a0, .int .i64 a1] w fun e w' => ∃ v, e = .returned v ∧ R v w' :=
  calls_of_ev (args := [.pointer a0, .int .i64 a1]) Try.func30 (Nat.le_of_ble_eq_true (by kernel_rfl)) (by rw [V30_eq]; exact h)
theorem ok30 : fnOk Try.prog 30 = true := by kernel_rfl

/-! (*depot/depotref05.Trail).Lits -/
def V31 (a0 : Option Addr) (w : World) (R : Value → World → Prop) : Prop :=
  lp (σ := (Option Addr × Nat × Nat) × Int × Unit) (fun s7 w1 k6 => match s7 with
    | ((v4, v4n, v4c), v5, _) =>
    nn a0 fun p9 =>
    ldC w1 (p9.add 1) fun x10 x10n x10c =>
    pif (decide (v5 < (x10n : Int))) (
      nn a0 fun p12 =>
      ldC w1 (p12.add 1) fun x13 x13n x13c =>
      ixA x13 x13n v5 3 fun p14 =>
      ldI .i64 w1 (p14.add 0) fun x15 =>
      alc w1 [.int .i64 x15] 3 fun b16 w2 =>
      ∃ (x17 : Option Addr) (x17n x17c : Nat), ∃ w3 : World, (Builtin.append_ #[26, 26] 26 #[.slice v4 v4n v4c, .slice (some (⟨b16, 0, none⟩ : Addr)) 1 1]).run Try.prog w2 = .ok (.slice x17 x17n x17c) w3 ∧
      k6 ((x17, x17n, x17c), (IntKind.wrap .i64 (v5 + 1)), ()) w3) (
      R (.slice v4 v4n v4c) w1)) ((none, 0, 0), 0, ()) w
def An31 : An := .seq (.leaf) (.seq (.leaf) (.seq (.seq (.leaf) (.blk (.loop [(3, .one (.slc)), (4, .one (.int .i64))] (.seq (.seq (.leaf) (.cond (.leaf) (.leaf))) (.seq (.blk (.leaf)) (.leaf)))))) (.seq (.leaf) (.leaf))))
theorem V31_eq (a0 : Option Addr) (w : World) (R : Value → World → Prop) : evF Try.prog Try.f31 An31 [.pointer a0] w R = V31 a0 w R := by kernel_rfl
theorem V31_calls (a0 : Option Addr) (w : World) (R : Value → World → Prop) (h : V31 a0 w R) : Calls Try.prog 31 #[.pointer a0] w fun e w' => ∃ v, e = .returned v ∧ R v w' :=
  calls_of_ev (args := [.pointer a0]) Try.func31 (Nat.le_of_ble_eq_true (by kernel_rfl)) (by rw [V31_eq]; exact h)
theorem ok31 : fnOk Try.prog 31 = true := by kernel_rfl

/-! (*depot/depotref05.Trail).Marks -/
def V32 (a0 : Option Addr) (w : World) (R : Value → World → Prop) : Prop :=
  lp (σ := (Option Addr × Nat × Nat) × Int × Unit) (fun s7 w1 k6 => match s7 with
    | ((v4, v4n, v4c), v5, _) =>
    nn a0 fun p9 =>
    ldC w1 (p9.add 1) fun x10 x10n x10c =>
    pif (decide (v5 < (x10n : Int))) (
      jn (σ := (Option Addr × Nat × Nat) × Unit) (fun k12 =>
        nn a0 fun p15 =>
        ldC w1 (p15.add 1) fun x16 x16n x16c =>
        ixA x16 x16n v5 3 fun p17 =>
        ldI .i64 w1 (p17.add 2) fun x18 =>
        pif (decide (x18 < 0)) (
          alc w1 [.int .i64 v5] 3 fun b20 w3 =>
          ∃ (x21 : Option Addr) (x21n x21c : Nat), ∃ w4 : World, (Builtin.append_ #[26, 26] 26 #[.slice v4 v4n v4c, .slice (some (⟨b20, 0, none⟩ : Addr)) 1 1]).run Try.prog w3 = .ok (.slice x21 x21n x21c) w4 ∧
          k12 ((x21, x21n, x21c), ()) w4) (
          k12 ((v4, v4n, v4c), ()) w1)) fun s13 w2 => match s13 with
      | ((v11, v11n, v11c), _) =>
      k6 ((v11, v11n, v11c), (IntKind.wrap .i64 (v5 + 1)), ()) w2) (
      R (.slice v4 v4n v4c) w1)) ((none, 0, 0), 0, ()) w
def An32 : An := .seq (.leaf) (.seq (.leaf) (.seq (.seq (.leaf) (.blk (.loop [(3, .one (.slc)), (4, .one (.int .i64))] (.seq (.seq (.leaf) (.cond (.leaf) (.leaf))) (.seq (.join [(3, .one (.slc))] (.blk (.seq (.leaf) (.cond (.leaf) (.leaf))))) (.leaf)))))) (.seq (.leaf) (.leaf))))
theorem V32_eq (a0 : Option Addr) (w : World) (R : Value → World → Prop) : evF Try.prog Try.f32 An32 [.pointer a0] w R = V32 a0 w R := by kernel_rfl
theorem V32_calls (a0 : Option Addr) (w : World) (R : Value → World → Prop) (h : V32 a0 w R) : Calls Try.prog 32 #[.pointer a0] w fun e w' => ∃ v, e = .returned v ∧ R v w' :=
  calls_of_ev (args := [.pointer a0]) Try.func32 (Nat.le_of_ble_eq_true (by kernel_rfl)) (by rw [V32_eq]; exact h)
theorem ok32 : fnOk Try.prog 32 = true := by kernel_rfl

/-! depot/depotlaw05.looks -/
def V33 (a0 : Option Addr) (a1 : Option Addr) (a2 : Option Addr) (a2n : Nat) (a2c : Nat) (w : World) (R : Value → World → Prop) : Prop :=
  cl Try.prog 43 [.slice a2 a2n a2c] w fun e4 w1 => ∃ (x3 : Option Addr) (x3n x3c : Nat), e4 = Ending.returned (.slice x3 x3n x3c) ∧
  0 ≤ (a2n : Int) ∧ (a2n : Int) ≤ (x3c : Int) ∧
  cl Try.prog 24 [.pointer a0, .slice (slA x3 x3c 0 1) ((Int.toNat (a2n : Int)) - 0) (x3c - 0)] w1 fun e8 w2 => ∃ x6 : Int, ∃ x7 : Int, e8 = Ending.returned (.tuple #[.int .i8 x6, .int .i64 x7]) ∧
  0 ≤ (a2n : Int) ∧ (a2n : Int) ≤ (x3c : Int) ∧
  cl Try.prog 24 [.pointer a0, .slice (slA x3 x3c 0 1) ((Int.toNat (a2n : Int)) - 0) (x3c - 0)] w2 fun e12 w3 => ∃ x10 : Int, ∃ x11 : Int, e12 = Ending.returned (.tuple #[.int .i8 x10, .int .i64 x11]) ∧
  cl Try.prog 44 [.pointer a1, .slice a2 a2n a2c] w3 fun e16 w4 => ∃ x14 : Int, ∃ x15 : Int, e16 = Ending.returned (.tuple #[.int .i8 x14, .int .i64 x15]) ∧
  gd (α := Bool) (!(cond (cond (cond (x6 != x14) true (x10 != x14)) true (x7 != x15)) true (x11 != x15))) (fun k18 =>
    cl Try.prog 45 [.slice x3 x3n x3c, .slice a2 a2n a2c] w4 fun e20 w5 => ∃ x19 : Bool, e20 = Ending.returned (.bool x19) ∧
    k18 x19 w5) false w4 fun x21 w6 =>
  pif (cond (cond (cond (cond (x6 != x14) true (x10 != x14)) true (x7 != x15)) true (x11 != x15)) true (!x21)) (
    R (.bool false) w6) (
    lp (σ := Int × Unit) (fun s26 w7 k25 => match s26 with
      | (v24, _) =>
      pif (decide (v24 < (a2n : Int))) (
        ixA x3 x3n v24 1 fun p29 =>
        ldI .i64 w7 p29 fun x30 =>
        ixA x3 x3n v24 1 fun p31 =>
        st w7 (p31.add 0) (.int .i64 (IntKind.wrap .i64 (0 - x30))) fun w8 =>
        k25 ((IntKind.wrap .i64 (v24 + 1)), ()) w8) (
        0 ≤ (a2n : Int) ∧ (a2n : Int) ≤ (x3c : Int) ∧
        cl Try.prog 24 [.pointer a0, .slice (slA x3 x3c 0 1) ((Int.toNat (a2n : Int)) - 0) (x3c - 0)] w7 fun e36 w9 => ∃ x34 : Int, ∃ x35 : Int, e36 = Ending.returned (.tuple #[.int .i8 x34, .int .i64 x35]) ∧
        0 ≤ (a2n : Int) ∧ (a2n : Int) ≤ (x3c : Int) ∧
        cl Try.prog 24 [.pointer a0, .slice (slA x3 x3c 0 1) ((Int.toNat (a2n : Int)) - 0) (x3c - 0)] w9 fun e40 w10 => ∃ x38 : Int, ∃ x39 : Int, e40 = Ending.returned (.tuple #[.int .i8 x38, .int .i64 x39]) ∧
        0 ≤ (a2n : Int) ∧ (a2n : Int) ≤ (x3c : Int) ∧
        cl Try.prog 46 [.slice (slA x3 x3c 0 1) ((Int.toNat (a2n : Int)) - 0) (x3c - 0)] w10 fun e43 w11 => ∃ (x42 : Option Addr) (x42n x42c : Nat), e43 = Ending.returned (.slice x42 x42n x42c) ∧
        cl Try.prog 44 [.pointer a1, .slice x42 x42n x42c] w11 fun e46 w12 => ∃ x44 : Int, ∃ x45 : Int, e46 = Ending.returned (.tuple #[.int .i8 x44, .int .i64 x45]) ∧
        R (.bool (cond (cond (cond (x34 == x44) (x38 == x44) false) (x35 == x45) false) (x39 == x45) false)) w12)) (0, ()) w6)
def An33 : An := .seq (.leaf) (.seq (.leaf) (.seq (.leaf) (.seq (.leaf) (.seq (.leaf) (.seq (.seq (.leaf) (.cond (.seq (.leaf) (.leaf)) (.leaf))) (.seq (.seq (.leaf) (.blk (.loop [(14, .one (.int .i64))] (.seq (.seq (.leaf) (.cond (.leaf) (.leaf))) (.seq (.blk (.leaf)) (.leaf)))))) (.seq (.leaf) (.seq (.leaf) (.seq (.leaf) (.seq (.leaf) (.leaf)))))))))))
theorem V33_eq (a0 : Option Addr) (a1 : Option Addr) (a2 : Option Addr) (a2n : Nat) (a2c : Nat) (w : World) (R : Value → World → Prop) : evF Try.prog Try.f33 An33 [.pointer a0, .pointer a1, .slice a2 a2n a2c] w R = V33 a0 a1 a2 a2n a2c w R := by kernel_rfl
theorem V33_calls (a0 : Option Addr) (a1 : Option Addr) (a2 : Option Addr) (a2n : Nat) (a2c : Nat) (w : World) (R : Value → World → Prop) (h : V33 a0 a1 a2 a2n a2c w R) : Calls Try.prog 33 #[.pointer a0, .pointer a1, .slice a2 a2n a2c] w fun e w' => ∃ v, e = .returned v ∧ R v w' :=
  calls_of_ev (args := [.pointer a0, .pointer a1, .slice a2 a2n a2c]) Try.func33 (Nat.le_of_ble_eq_true (by kernel_rfl)) (by rw [V33_eq]; exact h)
theorem ok33 : fnOk Try.prog 33 = true := by kernel_rfl

/-! depot/depotkit.ApartInts -/
def V34 (a0 : Option Addr) (a0n : Nat) (a0c : Nat) (w : World) (R : Value → World → Prop) : Prop :=
  lp (σ := Int × Unit) (fun s5 w1 k4 => match s5 with
    | (v3, _) =>
    pif (decide (v3 < (a0n : Int))) (
      lp (σ := Int × Unit) (fun s10 w2 k9 => match s10 with
        | (v8, _) =>
        ixA a0 a0n v3 1 fun p12 =>
        ldC w2 p12 fun x13 x13n x13c =>
        pif (decide (v8 < (x13n : Int))) (
          ixA a0 a0n v3 1 fun p14 =>
          ldC (World.drew w2) p14 fun x15 x15n x15c =>
          cl Try.prog 47 [.int .i64 v3, .int .i64 v8] (World.drew w2) fun e17 w3 => ∃ x16 : Int, e17 = Ending.returned (.int .i64 x16) ∧
          (
            ldC w3 p14 fun x18 x18n x18c =>
            ((.slice x18 x18n x18c : Value) = .slice x15 x15n x15c)) ∧
          ixA x15 x15n v8 1 fun p19 =>
          st w3 (p19.add 0) (.int .i64 x16) fun w4 =>
          k9 ((IntKind.wrap .i64 (v8 + 1)), ()) w4) (
          k4 ((IntKind.wrap .i64 (v3 + 1)), ()) w2)) (0, ()) w1) (
      lp (σ := (Option Addr × Nat × Nat) × Int × Unit) (fun s27 w5 k26 => match s27 with
        | ((v24, v24n, v24c), v25, _) =>
        pif (decide (v25 < (a0n : Int))) (
          ixA a0 a0n v25 1 fun p30 =>
          ldC w5 p30 fun x31 x31n x31c =>
          lp (σ := (Option Addr × Nat × Nat) × Int × Unit) (fun s36 w6 k35 => match s36 with
            | ((v33, v33n, v33c), v34, _) =>
            pif (decide (v34 < 64)) (
              ixA a0 a0n v25 1 fun p39 =>
              ldC w6 p39 fun x40 x40n x40c =>
              cl Try.prog 47 [.int .i64 v25, .int .i64 (IntKind.wrap .i64 ((x40n : Int) + v34))] w6 fun e42 w7 => ∃ x41 : Int, e42 = Ending.returned (.int .i64 x41) ∧
              alc w7 [.int .i64 x41] 3 fun b43 w8 =>
              ∃ (x44 : Option Addr) (x44n x44c : Nat), ∃ w9 : World, (Builtin.append_ #[26, 26] 26 #[.slice v33 v33n v33c, .slice (some (⟨b43, 0, none⟩ : Addr)) 1 1]).run Try.prog w8 = .ok (.slice x44 x44n x44c) w9 ∧
              k35 ((x44, x44n, x44c), (IntKind.wrap .i64 (v34 + 1)), ()) w9) (
              alc w6 [.slice v33 v33n v33c] 26 fun b47 w10 =>
              ∃ (x48 : Option Addr) (x48n x48c : Nat), ∃ w11 : World, (Builtin.append_ #[58, 58] 58 #[.slice v24 v24n v24c, .slice (some (⟨b47, 0, none⟩ : Addr)) 1 1]).run Try.prog w10 = .ok (.slice x48 x48n x48c) w11 ∧
              k26 ((x48, x48n, x48c), (IntKind.wrap .i64 (v25 + 1)), ()) w11)) ((x31, x31n, x31c), 0, ()) w5) (
          lp (σ := Int × Unit) (fun s53 w12 k52 => match s53 with
            | (v51, _) =>
            pif (decide (v51 < (a0n : Int))) (
              lp (σ := Int × Unit) (fun s58 w13 k57 => match s58 with
                | (v56, _) =>
                ixA v24 v24n v51 1 fun p60 =>
                ldC w13 p60 fun x61 x61n x61c =>
                pif (decide (v56 < (x61n : Int))) (
                  ixA v24 v24n v51 1 fun p62 =>
                  ldC (World.drew w13) p62 fun x63 x63n x63c =>
                  ixA x63 x63n v56 1 fun p64 =>
                  ldI .i64 (World.drew w13) p64 fun x65 =>
                  cl Try.prog 47 [.int .i64 v51, .int .i64 v56] (World.drew w13) fun e67 w14 => ∃ x66 : Int, e67 = Ending.returned (.int .i64 x66) ∧
                  (
                    ldI .i64 w14 p64 fun x68 =>
                    ((.int .i64 x68 : Value) = .int .i64 x65)) ∧
                  (
                    ldC w14 p62 fun x69 x69n x69c =>
                    ((.slice x69 x69n x69c : Value) = .slice x63 x63n x63c)) ∧
                  gd (α := Addr) (!(!(x65 == x66))) (fun k70 =>
                    ixA a0 a0n v51 1 fun p71 =>
                    k70 p71 w14) ⟨0, 0, none⟩ w14 fun x72 _ =>
                  gd (α := (Option Addr × Nat × Nat)) (!(!(x65 == x66))) (fun k73 =>
                    ldC w14 x72 fun x74 x74n x74c =>
                    k73 (x74, x74n, x74c) w14) (none, 0, 0) w14 fun x75 _ =>
                  gd (α := Addr) ((!(!(x65 == x66))) && (decide (v56 < (x75.2.1 : Int)))) (fun k76 =>
                    ixA a0 a0n v51 1 fun p77 =>
                    k76 p77 w14) ⟨0, 0, none⟩ w14 fun x78 _ =>
                  gd (α := (Option Addr × Nat × Nat)) ((!(!(x65 == x66))) && (decide (v56 < (x75.2.1 : Int)))) (fun k79 =>
                    ldC w14 x78 fun x80 x80n x80c =>
                    k79 (x80, x80n, x80c) w14) (none, 0, 0) w14 fun x81 _ =>
                  gd (α := Addr) ((!(!(x65 == x66))) && (decide (v56 < (x75.2.1 : Int)))) (fun k82 =>
                    ixA x81.1 x81.2.1 v56 1 fun p83 =>
                    k82 p83 w14) ⟨0, 0, none⟩ w14 fun x84 _ =>
                  gd (α := Int) ((!(!(x65 == x66))) && (decide (v56 < (x75.2.1 : Int)))) (fun k85 =>
                    ldI .i64 w14 x84 fun x86 =>
                    k85 x86 w14) 0 w14 fun x87 _ =>
                  gd (α := Int) ((!(!(x65 == x66))) && (decide (v56 < (x75.2.1 : Int)))) (fun k88 =>
                    cl Try.prog 47 [.int .i64 v51, .int .i64 v56] w14 fun e90 w15 => ∃ x89 : Int, e90 = Ending.returned (.int .i64 x89) ∧
                    k88 x89 w15) 0 w14 fun x91 w16 =>
                  (((!(!(x65 == x66))) && (decide (v56 < (x75.2.1 : Int)))) = true →
                    ldI .i64 w16 x84 fun x92 =>
                    ((.int .i64 x92 : Value) = .int .i64 x87)) ∧
                  (((!(!(x65 == x66))) && (decide (v56 < (x75.2.1 : Int)))) = true →
                    ldC w16 x78 fun x93 x93n x93c =>
                    ((.slice x93 x93n x93c : Value) = .slice x81.1 x81.2.1 x81.2.2)) ∧
                  pif (cond (!(x65 == x66)) true (cond (decide (v56 < (x75.2.1 : Int))) (!(x87 == x91)) false)) (
                    R (.bool false) w16) (
                    k57 ((IntKind.wrap .i64 (v56 + 1)), ()) w16)) (
                  k52 ((IntKind.wrap .i64 (v51 + 1)), ()) w13)) (0, ()) w12) (
              lp (σ := Int × Unit) (fun s100 w17 k99 => match s100 with
                | (v98, _) =>
                pif (decide (v98 < (a0n : Int))) (
                  lp (σ := (Option Addr × Nat × Nat) × Int × Unit) (fun s107 w18 k106 => match s107 with
                    | ((v104, v104n, v104c), v105, _) =>
                    pif (decide (v105 < 64)) (
                      cl Try.prog 47 [.int .i64 (IntKind.wrap .i64 (v98 + (a0n : Int))), .int .i64 v105] w18 fun e111 w19 => ∃ x110 : Int, e111 = Ending.returned (.int .i64 x110) ∧
                      alc w19 [.int .i64 x110] 3 fun b112 w20 =>
                      ∃ (x113 : Option Addr) (x113n x113c : Nat), ∃ w21 : World, (Builtin.append_ #[26, 26] 26 #[.slice v104 v104n v104c, .slice (some (⟨b112, 0, none⟩ : Addr)) 1 1]).run Try.prog w20 = .ok (.slice x113 x113n x113c) w21 ∧
                      k106 ((x113, x113n, x113c), (IntKind.wrap .i64 (v105 + 1)), ()) w21) (
                      ixA a0 a0n v98 1 fun p116 =>
                      ldC w18 p116 fun x117 x117n x117c =>
                      ∃ (x118 : Option Addr) (x118n x118c : Nat), ∃ w22 : World, (Builtin.append_ #[26, 26] 26 #[.slice x117 x117n x117c, .slice v104 v104n v104c]).run Try.prog w18 = .ok (.slice x118 x118n x118c) w22 ∧
                      ixA v24 v24n v98 1 fun p119 =>
                      st w22 (p119.add 0) (.slice x118 x118n x118c) fun w23 =>
                      k99 ((IntKind.wrap .i64 (v98 + 1)), ()) w23)) ((none, 0, 0), 0, ()) w17) (
                  lp (σ := Int × Unit) (fun s124 w24 k123 => match s124 with
                    | (v122, _) =>
                    pif (decide (v122 < (a0n : Int))) (
                      lp (σ := Int × Unit) (fun s129 w25 k128 => match s129 with
                        | (v127, _) =>
                        ixA a0 a0n v122 1 fun p131 =>
                        ldC w25 p131 fun x132 x132n x132c =>
                        pif (decide (v127 < (x132n : Int))) (
                          ixA a0 a0n v122 1 fun p133 =>
                          ldC (World.drew w25) p133 fun x134 x134n x134c =>
                          ixA x134 x134n v127 1 fun p135 =>
                          ldI .i64 (World.drew w25) p135 fun x136 =>
                          cl Try.prog 47 [.int .i64 v122, .int .i64 v127] (World.drew w25) fun e138 w26 => ∃ x137 : Int, e138 = Ending.returned (.int .i64 x137) ∧
                          (
                            ldI .i64 w26 p135 fun x139 =>
                            ((.int .i64 x139 : Value) = .int .i64 x136)) ∧
                          (
                            ldC w26 p133 fun x140 x140n x140c =>
                            ((.slice x140 x140n x140c : Value) = .slice x134 x134n x134c)) ∧
                          gd (α := Addr) (!(!(x136 == x137))) (fun k141 =>
                            ixA v24 v24n v122 1 fun p142 =>
                            k141 p142 w26) ⟨0, 0, none⟩ w26 fun x143 _ =>
                          gd (α := (Option Addr × Nat × Nat)) (!(!(x136 == x137))) (fun k144 =>
                            ldC w26 x143 fun x145 x145n x145c =>
                            k144 (x145, x145n, x145c) w26) (none, 0, 0) w26 fun x146 _ =>
                          gd (α := Addr) (!(!(x136 == x137))) (fun k147 =>
                            ixA x146.1 x146.2.1 v127 1 fun p148 =>
                            k147 p148 w26) ⟨0, 0, none⟩ w26 fun x149 _ =>
                          gd (α := Int) (!(!(x136 == x137))) (fun k150 =>
                            ldI .i64 w26 x149 fun x151 =>
                            k150 x151 w26) 0 w26 fun x152 _ =>
                          gd (α := Int) (!(!(x136 == x137))) (fun k153 =>
                            cl Try.prog 47 [.int .i64 v122, .int .i64 v127] w26 fun e155 w27 => ∃ x154 : Int, e155 = Ending.returned (.int .i64 x154) ∧
                            k153 x154 w27) 0 w26 fun x156 w28 =>
                          ((!(!(x136 == x137))) = true →
                            ldI .i64 w28 x149 fun x157 =>
                            ((.int .i64 x157 : Value) = .int .i64 x152)) ∧
                          ((!(!(x136 == x137))) = true →
                            ldC w28 x143 fun x158 x158n x158c =>
                            ((.slice x158 x158n x158c : Value) = .slice x146.1 x146.2.1 x146.2.2)) ∧
                          pif (cond (!(x136 == x137)) true (!(x152 == x156))) (
                            R (.bool false) w28) (
                            k128 ((IntKind.wrap .i64 (v127 + 1)), ()) w28)) (
                          k123 ((IntKind.wrap .i64 (v122 + 1)), ()) w25)) (0, ()) w24) (
                      R (.bool true) w24)) (0, ()) w17)) (0, ()) w12)) (0, ()) w5)) ((none, 0, 0), 0, ()) w1)) (0, ()) w
def An34 : An := .seq (.leaf) (.seq (.seq (.leaf) (.blk (.loop [(3, .one (.int .i64))] (.seq (.seq (.leaf) (.cond (.leaf) (.leaf))) (.seq (.blk (.seq (.leaf) (.blk (.loop [(4, .one (.int .i64))] (.seq (.seq (.leaf) (.cond (.leaf) (.leaf))) (.seq (.blk (.draw [0, 0, 3, 7, 0, 0, 0, 96, 255, 511])) (.leaf))))))) (.leaf)))))) (.seq (.leaf) (.seq (.seq (.leaf) (.blk (.loop [(5, .one (.slc)), (6, .one (.int .i64))] (.seq (.seq (.leaf) (.cond (.leaf) (.leaf))) (.seq (.blk (.seq (.leaf) (.seq (.seq (.leaf) (.blk (.loop [(7, .one (.slc)), (8, .one (.int .i64))] (.seq (.seq (.leaf) (.cond (.leaf) (.leaf))) (.seq (.blk (.leaf)) (.leaf)))))) (.leaf)))) (.leaf)))))) (.seq (.seq (.leaf) (.blk (.loop [(9, .one (.int .i64))] (.seq (.seq (.leaf) (.cond (.leaf) (.leaf))) (.seq (.blk (.seq (.leaf) (.blk (.loop [(10, .one (.int .i64))] (.seq (.seq (.leaf) (.cond (.leaf) (.leaf))) (.seq (.blk (.seq (.draw [0, 0, 3, 7, 0, 31, 63, 0, 0, 384, 1023, 2047, 4095, 8191, 8191, 8191, 57343, 122879, 253951, 524287, 1048575, 2097151, 2097151, 8388607, 16777215, 2097151, 67108863, 134217727, 2097151, 2097151, 807403519, 2147483647, 4294967295, 8589934591, 17179869183]) (.cond (.seq (.leaf) (.leaf)) (.leaf)))) (.leaf))))))) (.leaf)))))) (.seq (.seq (.leaf) (.blk (.loop [(11, .one (.int .i64))] (.seq (.seq (.leaf) (.cond (.leaf) (.leaf))) (.seq (.blk (.seq (.leaf) (.seq (.seq (.leaf) (.blk (.loop [(12, .one (.slc)), (13, .one (.int .i64))] (.seq (.seq (.leaf) (.cond (.leaf) (.leaf))) (.seq (.blk (.leaf)) (.leaf)))))) (.leaf)))) (.leaf)))))) (.seq (.seq (.leaf) (.blk (.loop [(14, .one (.int .i64))] (.seq (.seq (.leaf) (.cond (.leaf) (.leaf))) (.seq (.blk (.seq (.leaf) (.blk (.loop [(15, .one (.int .i64))] (.seq (.seq (.leaf) (.cond (.leaf) (.leaf))) (.seq (.blk (.seq (.draw [0, 0, 3, 7, 0, 31, 63, 0, 0, 384, 1023, 2047, 4095, 8191, 8191, 32767, 65535, 8191, 262143, 524287, 8191, 8191, 3153919, 8388607, 16777215, 33554431]) (.cond (.seq (.leaf) (.leaf)) (.leaf)))) (.leaf))))))) (.leaf)))))) (.seq (.leaf) (.leaf))))))))
theorem V34_eq (a0 : Option Addr) (a0n : Nat) (a0c : Nat) (w : World) (R : Value → World → Prop) : evF Try.prog Try.f34 An34 [.slice a0 a0n a0c] w R = V34 a0 a0n a0c w R := by kernel_rfl
theorem V34_calls (a0 : Option Addr) (a0n : Nat) (a0c : Nat) (w : World) (R : Value → World → Prop) (h : V34 a0 a0n a0c w R) : Calls Try.prog 34 #[.slice a0 a0n a0c] w fun e w' => ∃ v, e = .returned v ∧ R v w' :=
  calls_of_ev (args := [.slice a0 a0n a0c]) Try.func34 (Nat.le_of_ble_eq_true (by kernel_rfl)) (by rw [V34_eq]; exact h)
theorem ok34 : fnOk Try.prog 34 = true := by kernel_rfl

/-! depot/depotlaw05.whole -/
def V35 (a0 : Option Addr) (a1 : Option Addr) (w : World) (R : Value → World → Prop) : Prop :=
  cl Try.prog 10 [.pointer a0] w fun e4 w1 => ∃ (x3 : Option Addr) (x3n x3c : Nat), e4 = Ending.returned (.slice x3 x3n x3c) ∧
  cl Try.prog 31 [.pointer a1] w1 fun e6 w2 => ∃ (x5 : Option Addr) (x5n x5c : Nat), e6 = Ending.returned (.slice x5 x5n x5c) ∧
  cl Try.prog 19 [.slice x3 x3n x3c, .slice x5 x5n x5c] w2 fun e8 w3 => ∃ x7 : Bool, e8 = Ending.returned (.bool x7) ∧
  gd (α := (Option Addr × Nat × Nat)) x7 (fun k9 =>
    cl Try.prog 11 [.pointer a0] w3 fun e11 w4 => ∃ (x10 : Option Addr) (x10n x10c : Nat), e11 = Ending.returned (.slice x10 x10n x10c) ∧
    k9 (x10, x10n, x10c) w4) (none, 0, 0) w3 fun x12 w5 =>
  gd (α := (Option Addr × Nat × Nat)) x7 (fun k13 =>
    cl Try.prog 32 [.pointer a1] w5 fun e15 w6 => ∃ (x14 : Option Addr) (x14n x14c : Nat), e15 = Ending.returned (.slice x14 x14n x14c) ∧
    k13 (x14, x14n, x14c) w6) (none, 0, 0) w5 fun x16 w7 =>
  gd (α := Bool) x7 (fun k17 =>
    cl Try.prog 19 [.slice x12.1 x12.2.1 x12.2.2, .slice x16.1 x16.2.1 x16.2.2] w7 fun e19 w8 => ∃ x18 : Bool, e19 = Ending.returned (.bool x18) ∧
    k17 x18 w8) false w7 fun x20 w9 =>
  gd (α := Int) (cond x7 x20 false) (fun k21 =>
    cl Try.prog 13 [.pointer a0] w9 fun e23 w10 => ∃ x22 : Int, e23 = Ending.returned (.int .i64 x22) ∧
    k21 x22 w10) 0 w9 fun x24 w11 =>
  gd (α := Int) (cond x7 x20 false) (fun k25 =>
    cl Try.prog 48 [.pointer a1] w11 fun e27 w12 => ∃ x26 : Int, e27 = Ending.returned (.int .i64 x26) ∧
    k25 x26 w12) 0 w11 fun x28 w13 =>
  R (.bool (cond (cond x7 x20 false) (x24 == x28) false)) w13
def An35 : An := .seq (.leaf) (.seq (.leaf) (.leaf))
theorem V35_eq (a0 : Option Addr) (a1 : Option Addr) (w : World) (R : Value → World → Prop) : evF Try.prog Try.f35 An35 [.pointer a0, .pointer a1] w R = V35 a0 a1 w R := by kernel_rfl
theorem V35_calls (a0 : Option Addr) (a1 : Option Addr) (w : World) (R : Value → World → Prop) (h : V35 a0 a1 w R) : Calls Try.prog 35 #[.pointer a0, .pointer a1] w fun e w' => ∃ v, e = .returned v ∧ R v w' :=
  calls_of_ev (args := [.pointer a0, .pointer a1]) Try.func35 (Nat.le_of_ble_eq_true (by kernel_rfl)) (by rw [V35_eq]; exact h)
theorem ok35 : fnOk Try.prog 35 = true := by kernel_rfl

/-! depot/depotlaw05.step -/
def V36 (a0 : Option Addr) (a1 : Option Addr) (a2_0 : Int) (a2_1 : Int) (a2_2 : Int) (a2_3 : Int) (a2_4 : Option Addr) (a2_4n : Nat) (a2_4c : Nat) (w : World) (R : Value → World → Prop) : Prop :=
  alc w [.int .i64 a2_0, .int .i64 a2_1, .int .i64 a2_2, .int .i64 a2_3, .slice a2_4 a2_4n a2_4c] 60 fun b2 w1 =>
  ldI .i64 w1 ((⟨b2, 0, none⟩ : Addr).add 1) fun x4 =>
  cl Try.prog 23 [.int .i64 x4, .int .i64 10] w1 fun e6 w2 => ∃ x5 : Int, e6 = Ending.returned (.int .i64 x5) ∧
  pif (x5 == 0) (
    ldI .i64 (World.drew w2) ((⟨b2, 0, none⟩ : Addr).add 2) fun x8 =>
    ldI .i64 (World.drew w2) ((⟨b2, 0, none⟩ : Addr).add 2) fun x9 =>
    cl Try.prog 18 [.pointer a0, .int .i64 x8] (World.drew w2) fun e11 w3 => ∃ x10 : Int, e11 = Ending.returned (.int .i64 x10) ∧
    (
      ldI .i64 w3 ((⟨b2, 0, none⟩ : Addr).add 2) fun x12 =>
      ((.int .i64 x12 : Value) = .int .i64 x9)) ∧
    cl Try.prog 28 [.pointer a1, .int .i64 x9] w3 fun e14 w4 => ∃ x13 : Int, e14 = Ending.returned (.int .i64 x13) ∧
    R (.bool (x10 == x13)) w4) (
    pif (x5 == 1) (
      ldI .i64 (World.drew w2) ((⟨b2, 0, none⟩ : Addr).add 2) fun x16 =>
      ldI .i64 (World.drew w2) ((⟨b2, 0, none⟩ : Addr).add 3) fun x17 =>
      ldI .i64 (World.drew w2) ((⟨b2, 0, none⟩ : Addr).add 2) fun x18 =>
      ldI .i64 (World.drew w2) ((⟨b2, 0, none⟩ : Addr).add 3) fun x19 =>
      cl Try.prog 26 [.pointer a0, .int .i64 x16, .int .i64 x17] (World.drew w2) fun e21 w5 => ∃ x20 : Int, e21 = Ending.returned (.int .i64 x20) ∧
      (
        ldI .i64 w5 ((⟨b2, 0, none⟩ : Addr).add 3) fun x22 =>
        ((.int .i64 x22 : Value) = .int .i64 x19)) ∧
      (
        ldI .i64 w5 ((⟨b2, 0, none⟩ : Addr).add 2) fun x23 =>
        ((.int .i64 x23 : Value) = .int .i64 x18)) ∧
      cl Try.prog 29 [.pointer a1, .int .i64 x18, .int .i64 x19] w5 fun e25 w6 => ∃ x24 : Int, e25 = Ending.returned (.int .i64 x24) ∧
      R (.bool (x20 == x24)) w6) (
      pif (x5 == 2) (
        ldI .i64 w2 ((⟨b2, 0, none⟩ : Addr).add 2) fun x28 =>
        cl Try.prog 12 [.pointer a0, .int .i64 x28] w2 fun e31 w7 => ∃ (x29 : Option Addr) (x29n x29c : Nat), ∃ x30 : Int, e31 = Ending.returned (.tuple #[.slice x29 x29n x29c, .int .i64 x30]) ∧
        ldI .i64 w7 ((⟨b2, 0, none⟩ : Addr).add 2) fun x33 =>
        cl Try.prog 30 [.pointer a1, .int .i64 x33] w7 fun e36 w8 => ∃ (x34 : Option Addr) (x34n x34c : Nat), ∃ x35 : Int, e36 = Ending.returned (.tuple #[.slice x34 x34n x34c, .int .i64 x35]) ∧
        gd (α := Bool) (x30 == x35) (fun k38 =>
          cl Try.prog 19 [.slice x29 x29n x29c, .slice x34 x34n x34c] w8 fun e40 w9 => ∃ x39 : Bool, e40 = Ending.returned (.bool x39) ∧
          k38 x39 w9) false w8 fun x41 w10 =>
        R (.bool (cond (x30 == x35) x41 false)) w10) (
        pif (x5 == 3) (
          ldI .i64 (World.drew w2) ((⟨b2, 0, none⟩ : Addr).add 2) fun x43 =>
          ldI .i64 (World.drew w2) ((⟨b2, 0, none⟩ : Addr).add 2) fun x44 =>
          cl Try.prog 14 [.pointer a0, .int .i64 x43] (World.drew w2) fun e46 w11 => ∃ x45 : Int, e46 = Ending.returned (.int .i8 x45) ∧
          (
            ldI .i64 w11 ((⟨b2, 0, none⟩ : Addr).add 2) fun x47 =>
            ((.int .i64 x47 : Value) = .int .i64 x44)) ∧
          cl Try.prog 49 [.pointer a1, .int .i64 x44] w11 fun e49 w12 => ∃ x48 : Int, e49 = Ending.returned (.int .i8 x48) ∧
          R (.bool (x45 == x48)) w12) (
          pif (x5 == 4) (
            ldI .i64 (World.drew w2) ((⟨b2, 0, none⟩ : Addr).add 2) fun x51 =>
            ldI .i64 (World.drew w2) ((⟨b2, 0, none⟩ : Addr).add 2) fun x52 =>
            cl Try.prog 15 [.pointer a0, .int .i64 x51] (World.drew w2) fun e54 w13 => ∃ x53 : Int, e54 = Ending.returned (.int .i64 x53) ∧
            (
              ldI .i64 w13 ((⟨b2, 0, none⟩ : Addr).add 2) fun x55 =>
              ((.int .i64 x55 : Value) = .int .i64 x52)) ∧
            cl Try.prog 50 [.pointer a1, .int .i64 x52] w13 fun e57 w14 => ∃ x56 : Int, e57 = Ending.returned (.int .i64 x56) ∧
            R (.bool (x53 == x56)) w14) (
            pif (x5 == 5) (
              ldI .i64 (World.drew w2) ((⟨b2, 0, none⟩ : Addr).add 2) fun x59 =>
              ldI .i64 (World.drew w2) ((⟨b2, 0, none⟩ : Addr).add 2) fun x60 =>
              cl Try.prog 16 [.pointer a0, .int .i64 x59] (World.drew w2) fun e62 w15 => ∃ x61 : Int, e62 = Ending.returned (.int .i64 x61) ∧
              (
                ldI .i64 w15 ((⟨b2, 0, none⟩ : Addr).add 2) fun x63 =>
                ((.int .i64 x63 : Value) = .int .i64 x60)) ∧
              cl Try.prog 51 [.pointer a1, .int .i64 x60] w15 fun e65 w16 => ∃ x64 : Int, e65 = Ending.returned (.int .i64 x64) ∧
              R (.bool (x61 == x64)) w16) (
              pif (x5 == 6) (
                ldC w2 ((⟨b2, 0, none⟩ : Addr).add 4) fun x68 x68n x68c =>
                cl Try.prog 24 [.pointer a0, .slice x68 x68n x68c] w2 fun e71 w17 => ∃ x69 : Int, ∃ x70 : Int, e71 = Ending.returned (.tuple #[.int .i8 x69, .int .i64 x70]) ∧
                ldC w17 ((⟨b2, 0, none⟩ : Addr).add 4) fun x73 x73n x73c =>
                cl Try.prog 44 [.pointer a1, .slice x73 x73n x73c] w17 fun e76 w18 => ∃ x74 : Int, ∃ x75 : Int, e76 = Ending.returned (.tuple #[.int .i8 x74, .int .i64 x75]) ∧
                R (.bool (cond (x69 == x74) (x70 == x75) false)) w18) (
                pif (x5 == 7) (
                  cl Try.prog 10 [.pointer a0] w2 fun e81 w19 => ∃ (x80 : Option Addr) (x80n x80c : Nat), e81 = Ending.returned (.slice x80 x80n x80c) ∧
                  cl Try.prog 31 [.pointer a1] w19 fun e83 w20 => ∃ (x82 : Option Addr) (x82n x82c : Nat), e83 = Ending.returned (.slice x82 x82n x82c) ∧
                  cl Try.prog 19 [.slice x80 x80n x80c, .slice x82 x82n x82c] w20 fun e85 w21 => ∃ x84 : Bool, e85 = Ending.returned (.bool x84) ∧
                  R (.bool x84) w21) (
                  pif (x5 == 8) (
                    cl Try.prog 11 [.pointer a0] w2 fun e89 w22 => ∃ (x88 : Option Addr) (x88n x88c : Nat), e89 = Ending.returned (.slice x88 x88n x88c) ∧
                    cl Try.prog 32 [.pointer a1] w22 fun e91 w23 => ∃ (x90 : Option Addr) (x90n x90c : Nat), e91 = Ending.returned (.slice x90 x90n x90c) ∧
                    cl Try.prog 19 [.slice x88 x88n x88c, .slice x90 x90n x90c] w23 fun e93 w24 => ∃ x92 : Bool, e93 = Ending.returned (.bool x92) ∧
                    R (.bool x92) w24) (
                    cl Try.prog 13 [.pointer a0] w2 fun e96 w25 => ∃ x95 : Int, e96 = Ending.returned (.int .i64 x95) ∧
                    cl Try.prog 48 [.pointer a1] w25 fun e98 w26 => ∃ x97 : Int, e98 = Ending.returned (.int .i64 x97) ∧
                    R (.bool (x95 == x97)) w26)))))))))
def An36 : An := .seq (.leaf) (.seq (.seq (.leaf) (.blk (.seq (.leaf) (.cond (.seq (.draw [0, 0, 2, 7, 0, 0, 32, 127, 255, 511]) (.leaf)) (.seq (.leaf) (.cond (.seq (.draw [0, 0, 2, 0, 8, 31, 0, 0, 128, 0, 512, 2047, 4095, 8191]) (.leaf)) (.seq (.leaf) (.cond (.seq (.leaf) (.seq (.leaf) (.seq (.leaf) (.leaf)))) (.seq (.leaf) (.cond (.seq (.draw [0, 0, 2, 7, 0, 0, 32, 127, 255, 511]) (.leaf)) (.seq (.leaf) (.cond (.seq (.draw [0, 0, 2, 7, 0, 0, 32, 127, 255, 511]) (.leaf)) (.seq (.leaf) (.cond (.seq (.draw [0, 0, 2, 7, 0, 0, 32, 127, 255, 511]) (.leaf)) (.seq (.leaf) (.cond (.seq (.leaf) (.seq (.leaf) (.seq (.leaf) (.leaf)))) (.seq (.leaf) (.cond (.seq (.leaf) (.leaf)) (.seq (.leaf) (.cond (.seq (.leaf) (.leaf)) (.leaf))))))))))))))))))))) (.seq (.leaf) (.leaf)))
theorem V36_eq (a0 : Option Addr) (a1 : Option Addr) (a2_0 : Int) (a2_1 : Int) (a2_2 : Int) (a2_3 : Int) (a2_4 : Option Addr) (a2_4n : Nat) (a2_4c : Nat) (w : World) (R : Value → World → Prop) : evF Try.prog Try.f36 An36 [.pointer a0, .pointer a1, .agg #[.int .i64 a2_0, .int .i64 a2_1, .int .i64 a2_2, .int .i64 a2_3, .slice a2_4 a2_4n a2_4c]] w R = V36 a0 a1 a2_0 a2_1 a2_2 a2_3 a2_4 a2_4n a2_4c w R := by kernel_rfl
theorem V36_calls (a0 : Option Addr) (a1 : Option Addr) (a2_0 : Int) (a2_1 : Int) (a2_2 : Int) (a2_3 : Int) (a2_4 : Option Addr) (a2_4n : Nat) (a2_4c : Nat) (w : World) (R : Value → World → Prop) (h : V36 a0 a1 a2_0 a2_1 a2_2 a2_3 a2_4 a2_4n a2_4c w R) : Calls Try.prog 36 #[.pointer a0, .pointer a1, .agg #[.int .i64 a2_0, .int .i64 a2_1, .int .i64 a2_2, .int .i64 a2_3, .slice a2_4 a2_4n a2_4c]] w fun e w' => ∃ v, e = .returned v ∧ R v w' :=
  calls_of_ev (args := [.pointer a0, .pointer a1, .agg #[.int .i64 a2_0, .int .i64 a2_1, .int .i64 a2_2, .int .i64 a2_3, .slice a2_4 a2_4n a2_4c]]) Try.func36 (Nat.le_of_ble_eq_true (by kernel_rfl)) (by rw [V36_eq]; exact h)
theorem ok36 : fnOk Try.prog 36 = true := by kernel_rfl

/-! (*depot/trail.Trail).own -/
def V37 (a0 : Option Addr) (a1 : Int) (w : World) (R : Value → World → Prop) : Prop :=
  cl Try.prog 52 [.int .i64 a1] w fun e4 w1 => ∃ x3 : Int, e4 = Ending.returned (.int .i64 x3) ∧
  gd (α := Addr) (decide (x3 ≥ 1)) (fun k5 =>
    nn a0 fun p6 =>
    k5 p6 (World.drew w1)) ⟨0, 0, none⟩ (World.drew w1) fun x7 _ =>
  gd (α := (Option Addr × Nat × Nat)) (decide (x3 ≥ 1)) (fun k8 =>
    ldC (World.drew w1) (x7.add 2) fun x9 x9n x9c =>
    k8 (x9, x9n, x9c) (World.drew w1)) (none, 0, 0) (World.drew w1) fun x10 _ =>
  R (.tuple #[.int .i64 (IntKind.wrap .i64 (x3 - 1)), .bool (cond (decide (x3 ≥ 1)) (decide (x3 ≤ (x10.2.1 : Int))) false)]) (World.drew w1)
def An37 : An := .seq (.leaf) (.seq (.leaf) (.seq (.draw [0, 1, 0, 4, 12, 28, 28, 92, 220, 476, 988, 2044, 4092, 31, 16383]) (.leaf)))
theorem V37_eq (a0 : Option Addr) (a1 : Int) (w : World) (R : Value → World → Prop) : evF Try.prog Try.f37 An37 [.pointer a0, .int .i64 a1] w R = V37 a0 a1 w R := by kernel_rfl
theorem V37_calls (a0 : Option Addr) (a1 : Int) (w : World) (R : Value → World → Prop) (h : V37 a0 a1 w R) : Calls Try.prog 37 #[.pointer a0, .int .i64 a1] w fun e w' => ∃ v, e = .returned v ∧ R v w' :=
  calls_of_ev (args := [.pointer a0, .int .i64 a1]) Try.func37 (Nat.le_of_ble_eq_true (by kernel_rfl)) (by rw [V37_eq]; exact h)
theorem ok37 : fnOk Try.prog 37 = true := by kernel_rfl

/-! (*depot/trail.Trail).known -/
def V38 (a0 : Option Addr) (a1 : Int) (w : World) (R : Value → World → Prop) : Prop :=
  alc w [.int .i64 0, .int .i64 0] 81 fun b2 w1 =>
  cl Try.prog 37 [.pointer a0, .int .i64 a1] w1 fun e6 w2 => ∃ x4 : Int, ∃ x5 : Bool, e6 = Ending.returned (.tuple #[.int .i64 x4, .bool x5]) ∧
  gd (α := Addr) (!(cond (!x5) true (decide (a1 < 1)))) (fun k8 =>
    nn a0 fun p9 =>
    k8 p9 w2) ⟨0, 0, none⟩ w2 fun x10 w3 =>
  gd (α := (Option Addr × Nat × Nat)) (!(cond (!x5) true (decide (a1 < 1)))) (fun k11 =>
    ldC w3 (x10.add 2) fun x12 x12n x12c =>
    k11 (x12, x12n, x12c) w3) (none, 0, 0) w3 fun x13 w4 =>
  gd (α := Addr) (!(cond (!x5) true (decide (a1 < 1)))) (fun k14 =>
    ixA x13.1 x13.2.1 x4 1 fun p15 =>
    k14 p15 w4) ⟨0, 0, none⟩ w4 fun x16 w5 =>
  gd (α := Int) (!(cond (!x5) true (decide (a1 < 1)))) (fun k17 =>
    ldI .i8 w5 x16 fun x18 =>
    k17 x18 w5) 0 w5 fun x19 w6 =>
  pif (cond (cond (!x5) true (decide (a1 < 1))) true (x19 == 0)) (
    st w6 ((⟨b2, 0, none⟩ : Addr).add 0) (.int .i64 0) fun w7 =>
    st w7 ((⟨b2, 0, none⟩ : Addr).add 1) (.int .i64 0) fun w8 =>
    ldI .i64 w8 ((⟨b2, 0, none⟩ : Addr).add 0) fun x21 =>
    ldI .i64 w8 ((⟨b2, 0, none⟩ : Addr).add 1) fun x22 =>
    R (.tuple #[.agg #[.int .i64 x21, .int .i64 x22], .bool false]) w8) (
    nn a0 fun p24 =>
    ldC w6 (p24.add 3) fun x25 x25n x25c =>
    ixA x25 x25n x4 2 fun p26 =>
    ldI .i64 w6 (p26.add 0) fun x27 =>
    ldI .i64 w6 (p26.add 1) fun x28 =>
    st w6 ((⟨b2, 0, none⟩ : Addr).add 0) (.int .i64 x27) fun w9 =>
    st w9 ((⟨b2, 0, none⟩ : Addr).add 1) (.int .i64 x28) fun w10 =>
    ldI .i64 w10 ((⟨b2, 0, none⟩ : Addr).add 0) fun x29 =>
    ldI .i64 w10 ((⟨b2, 0, none⟩ : Addr).add 1) fun x30 =>
    R (.tuple #[.agg #[.int .i64 x29, .int .i64 x30], .bool true]) w10)
def An38 : An := .seq (.leaf) (.seq (.leaf) (.seq (.seq (.leaf) (.cond (.seq (.leaf) (.leaf)) (.leaf))) (.seq (.leaf) (.leaf))))
theorem V38_eq (a0 : Option Addr) (a1 : Int) (w : World) (R : Value → World → Prop) : evF Try.prog Try.f38 An38 [.pointer a0, .int .i64 a1] w R = V38 a0 a1 w R := by kernel_rfl
theorem V38_calls (a0 : Option Addr) (a1 : Int) (w : World) (R : Value → World → Prop) (h : V38 a0 a1 w R) : Calls Try.prog 38 #[.pointer a0, .int .i64 a1] w fun e w' => ∃ v, e = .returned v ∧ R v w' :=
  calls_of_ev (args := [.pointer a0, .int .i64 a1]) Try.func38 (Nat.le_of_ble_eq_true (by kernel_rfl)) (by rw [V38_eq]; exact h)
theorem ok38 : fnOk Try.prog 38 = true := by kernel_rfl

/-! (*depot/trail.Trail).free -/
def V39 (a0 : Option Addr) (a1 : Int) (w : World) (R : Value → World → Prop) : Prop :=
  cl Try.prog 37 [.pointer a0, .int .i64 a1] w fun e5 w1 => ∃ x3 : Int, ∃ x4 : Bool, e5 = Ending.returned (.tuple #[.int .i64 x3, .bool x4]) ∧
  pif (!x4) (
    R (.int .i64 1) w1) (
    nn a0 fun p9 =>
    ldC w1 (p9.add 2) fun x10 x10n x10c =>
    ixA x10 x10n x3 1 fun p11 =>
    ldI .i8 w1 p11 fun x12 =>
    pif (x12 != 0) (
      R (.int .i64 50) w1) (
      R (.int .i64 0) w1))
def An39 : An := .seq (.leaf) (.seq (.leaf) (.seq (.blk (.seq (.leaf) (.cond (.seq (.leaf) (.leaf)) (.seq (.leaf) (.cond (.seq (.leaf) (.leaf)) (.leaf)))))) (.seq (.leaf) (.leaf))))
theorem V39_eq (a0 : Option Addr) (a1 : Int) (w : World) (R : Value → World → Prop) : evF Try.prog Try.f39 An39 [.pointer a0, .int .i64 a1] w R = V39 a0 a1 w R := by kernel_rfl
theorem V39_calls (a0 : Option Addr) (a1 : Int) (w : World) (R : Value → World → Prop) (h : V39 a0 a1 w R) : Calls Try.prog 39 #[.pointer a0, .int .i64 a1] w fun e w' => ∃ v, e = .returned v ∧ R v w' :=
  calls_of_ev (args := [.pointer a0, .int .i64 a1]) Try.func39 (Nat.le_of_ble_eq_true (by kernel_rfl)) (by rw [V39_eq]; exact h)
theorem ok39 : fnOk Try.prog 39 = true := by kernel_rfl

/-! (*depot/trail.Trail).lay -/
def V40 (a0 : Option Addr) (a1 : Int) (a2 : Int) (w : World) (R : Value → World → Prop) : Prop :=
  cl Try.prog 37 [.pointer a0, .int .i64 a1] w fun e4 w1 => ∃ x2 : Int, ∃ x3 : Bool, e4 = Ending.returned (.tuple #[.int .i64 x2, .bool x3]) ∧
  nn a0 fun p6 =>
  ldC w1 (p6.add 2) fun x7 x7n x7c =>
  ixA x7 x7n x2 1 fun p8 =>
  st w1 (p8.add 0) (.int .i8 1) fun w2 =>
  jn (σ := Unit) (fun k9 =>
    pif (decide (a1 < 0)) (
      nn a0 fun p13 =>
      ldC w2 (p13.add 2) fun x14 x14n x14c =>
      ixA x14 x14n x2 1 fun p15 =>
      st w2 (p15.add 0) (.int .i8 (-1)) fun w4 =>
      k9 (()) w4) (
      k9 (()) w2)) fun s10 w3 => match s10 with
  | (_) =>
  nn a0 fun p16 =>
  ldC (World.drew w3) (p16.add 3) fun x17 x17n x17c =>
  nn a0 fun p18 =>
  ldC (World.drew w3) (p18.add 1) fun x19 x19n x19c =>
  ixA x17 x17n x2 2 fun p20 =>
  st (World.drew w3) (p20.add 0) (.int .i64 (x19n : Int)) fun w5 =>
  st w5 (p20.add 1) (.int .i64 a2) fun w6 =>
  nn a0 fun p22 =>
  ldC w6 (p22.add 0) fun x23 x23n x23c =>
  alc w6 [.int .i64 a1] 3 fun b24 w7 =>
  ∃ (x25 : Option Addr) (x25n x25c : Nat), ∃ w8 : World, (Builtin.append_ #[26, 26] 26 #[.slice x23 x23n x23c, .slice (some (⟨b24, 0, none⟩ : Addr)) 1 1]).run Try.prog w7 = .ok (.slice x25 x25n x25c) w8 ∧
  nn a0 fun p26 =>
  st w8 ((p26.add 0).add 0) (.slice x25 x25n x25c) fun w9 =>
  R (.tuple #[]) w9
def An40 : An := .seq (.leaf) (.seq (.leaf) (.seq (.join [] (.seq (.leaf) (.cond (.leaf) (.leaf)))) (.seq (.draw [0, 1, 3, 7, 0, 0, 32, 96, 224, 480, 0, 2016, 4095, 8191]) (.leaf))))
theorem V40_eq (a0 : Option Addr) (a1 : Int) (a2 : Int) (w : World) (R : Value → World → Prop) : evF Try.prog Try.f40 An40 [.pointer a0, .int .i64 a1, .int .i64 a2] w R = V40 a0 a1 a2 w R := by kernel_rfl
theorem V40_calls (a0 : Option Addr) (a1 : Int) (a2 : Int) (w : World) (R : Value → World → Prop) (h : V40 a0 a1 a2 w R) : Calls Try.prog 40 #[.pointer a0, .int .i64 a1, .int .i64 a2] w fun e w' => ∃ v, e = .returned v ∧ R v w' :=
  calls_of_ev (args := [.pointer a0, .int .i64 a1, .int .i64 a2]) Try.func40 (Nat.le_of_ble_eq_true (by kernel_rfl)) (by rw [V40_eq]; exact h)
theorem ok40 : fnOk Try.prog 40 = true := by kernel_rfl

/-! (*depot/depotref05.Trail).own -/
def V41 (a0 : Option Addr) (a1 : Int) (w : World) (R : Value → World → Prop) : Prop :=
  cl Try.prog 53 [.int .i64 a1] w fun e4 w1 => ∃ x3 : Bool, e4 = Ending.returned (.bool x3) ∧
  gd (α := Addr) x3 (fun k5 =>
    nn a0 fun p6 =>
    k5 p6 w1) ⟨0, 0, none⟩ w1 fun x7 w2 =>
  gd (α := Int) x3 (fun k8 =>
    ldI .i64 w2 (x7.add 0) fun x9 =>
    k8 x9 w2) 0 w2 fun x10 w3 =>
  gd (α := Addr) (cond x3 (decide (a1 ≤ x10)) false) (fun k11 =>
    nn a0 fun p12 =>
    k11 p12 w3) ⟨0, 0, none⟩ w3 fun x13 w4 =>
  gd (α := Int) (cond x3 (decide (a1 ≤ x10)) false) (fun k14 =>
    ldI .i64 w4 (x13.add 0) fun x15 =>
    k14 x15 w4) 0 w4 fun x16 w5 =>
  R (.bool (cond (cond x3 (decide (a1 ≤ x10)) false) (decide ((IntKind.wrap .i64 (0 - a1)) ≤ x16)) false)) w5
def An41 : An := .seq (.leaf) (.seq (.leaf) (.leaf))
theorem V41_eq (a0 : Option Addr) (a1 : Int) (w : World) (R : Value → World → Prop) : evF Try.prog Try.f41 An41 [.pointer a0, .int .i64 a1] w R = V41 a0 a1 w R := by kernel_rfl
theorem V41_calls (a0 : Option Addr) (a1 : Int) (w : World) (R : Value → World → Prop) (h : V41 a0 a1 w R) : Calls Try.prog 41 #[.pointer a0, .int .i64 a1] w fun e w' => ∃ v, e = .returned v ∧ R v w' :=
  calls_of_ev (args := [.pointer a0, .int .i64 a1]) Try.func41 (Nat.le_of_ble_eq_true (by kernel_rfl)) (by rw [V41_eq]; exact h)
theorem ok41 : fnOk Try.prog 41 = true := by kernel_rfl

/-! (*depot/depotref05.Trail).at -/
def V42 (a0 : Option Addr) (a1 : Int) (w : World) (R : Value → World → Prop) : Prop :=
  lp (σ := Int × Unit) (fun s5 w1 k4 => match s5 with
    | (v3, _) =>
    nn a0 fun p7 =>
    ldC w1 (p7.add 1) fun x8 x8n x8c =>
    pif (decide (v3 < (x8n : Int))) (
      nn a0 fun p10 =>
      ldC w1 (p10.add 1) fun x11 x11n x11c =>
      ixA x11 x11n v3 3 fun p12 =>
      ldI .i64 w1 (p12.add 0) fun x13 =>
      gd (α := Addr) (!(x13 == a1)) (fun k14 =>
        nn a0 fun p15 =>
        k14 p15 w1) ⟨0, 0, none⟩ w1 fun x16 w2 =>
      gd (α := (Option Addr × Nat × Nat)) (!(x13 == a1)) (fun k17 =>
        ldC w2 (x16.add 1) fun x18 x18n x18c =>
        k17 (x18, x18n, x18c) w2) (none, 0, 0) w2 fun x19 w3 =>
      gd (α := Addr) (!(x13 == a1)) (fun k20 =>
        ixA x19.1 x19.2.1 v3 3 fun p21 =>
        k20 p21 w3) ⟨0, 0, none⟩ w3 fun x22 w4 =>
      gd (α := Int) (!(x13 == a1)) (fun k23 =>
        ldI .i64 w4 (x22.add 0) fun x24 =>
        k23 x24 w4) 0 w4 fun x25 w5 =>
      pif (cond (x13 == a1) true (x25 == (IntKind.wrap .i64 (0 - a1)))) (
        R (.int .i64 v3) w5) (
        k4 ((IntKind.wrap .i64 (v3 + 1)), ()) w5)) (
      R (.int .i64 (-1)) w1)) (0, ()) w
def An42 : An := .seq (.leaf) (.seq (.seq (.leaf) (.blk (.loop [(5, .one (.int .i64))] (.seq (.seq (.leaf) (.cond (.leaf) (.leaf))) (.seq (.blk (.seq (.leaf) (.cond (.seq (.leaf) (.leaf)) (.leaf)))) (.leaf)))))) (.seq (.leaf) (.leaf)))
theorem V42_eq (a0 : Option Addr) (a1 : Int) (w : World) (R : Value → World → Prop) : evF Try.prog Try.f42 An42 [.pointer a0, .int .i64 a1] w R = V42 a0 a1 w R := by kernel_rfl
theorem V42_calls (a0 : Option Addr) (a1 : Int) (w : World) (R : Value → World → Prop) (h : V42 a0 a1 w R) : Calls Try.prog 42 #[.pointer a0, .int .i64 a1] w fun e w' => ∃ v, e = .returned v ∧ R v w' :=
  calls_of_ev (args := [.pointer a0, .int .i64 a1]) Try.func42 (Nat.le_of_ble_eq_true (by kernel_rfl)) (by rw [V42_eq]; exact h)
theorem ok42 : fnOk Try.prog 42 = true := by kernel_rfl

/-! depot/depotkit.Lent -/
def V43 (a0 : Option Addr) (a0n : Nat) (a0c : Nat) (w : World) (R : Value → World → Prop) : Prop :=
  lp (σ := (Option Addr × Nat × Nat) × Int × Unit) (fun s7 w1 k6 => match s7 with
    | ((v4, v4n, v4c), v5, _) =>
    pif (decide (v5 < (a0n : Int))) (
      ixA a0 a0n v5 1 fun p10 =>
      ldI .i64 w1 p10 fun x11 =>
      alc w1 [.int .i64 x11] 3 fun b12 w2 =>
      ∃ (x13 : Option Addr) (x13n x13c : Nat), ∃ w3 : World, (Builtin.append_ #[26, 26] 26 #[.slice v4 v4n v4c, .slice (some (⟨b12, 0, none⟩ : Addr)) 1 1]).run Try.prog w2 = .ok (.slice x13 x13n x13c) w3 ∧
      k6 ((x13, x13n, x13c), (IntKind.wrap .i64 (v5 + 1)), ()) w3) (
      lp (σ := (Option Addr × Nat × Nat) × Int × Unit) (fun s19 w4 k18 => match s19 with
        | ((v16, v16n, v16c), v17, _) =>
        pif (decide (v17 < 64)) (
          cl Try.prog 47 [.int .i64 0, .int .i64 v17] w4 fun e23 w5 => ∃ x22 : Int, e23 = Ending.returned (.int .i64 x22) ∧
          alc w5 [.int .i64 x22] 3 fun b24 w6 =>
          ∃ (x25 : Option Addr) (x25n x25c : Nat), ∃ w7 : World, (Builtin.append_ #[26, 26] 26 #[.slice v16 v16n v16c, .slice (some (⟨b24, 0, none⟩ : Addr)) 1 1]).run Try.prog w6 = .ok (.slice x25 x25n x25c) w7 ∧
          k18 ((x25, x25n, x25c), (IntKind.wrap .i64 (v17 + 1)), ()) w7) (
          R (.slice v16 v16n v16c) w4)) ((v4, v4n, v4c), 0, ()) w1)) ((none, 0, 0), 0, ()) w
def An43 : An := .seq (.leaf) (.seq (.leaf) (.seq (.seq (.leaf) (.blk (.loop [(3, .one (.slc)), (4, .one (.int .i64))] (.seq (.seq (.leaf) (.cond (.leaf) (.leaf))) (.seq (.blk (.leaf)) (.leaf)))))) (.seq (.seq (.leaf) (.blk (.loop [(3, .one (.slc)), (5, .one (.int .i64))] (.seq (.seq (.leaf) (.cond (.leaf) (.leaf))) (.seq (.blk (.leaf)) (.leaf)))))) (.seq (.leaf) (.leaf)))))
theorem V43_eq (a0 : Option Addr) (a0n : Nat) (a0c : Nat) (w : World) (R : Value → World → Prop) : evF Try.prog Try.f43 An43 [.slice a0 a0n a0c] w R = V43 a0 a0n a0c w R := by kernel_rfl
theorem V43_calls (a0 : Option Addr) (a0n : Nat) (a0c : Nat) (w : World) (R : Value → World → Prop) (h : V43 a0 a0n a0c w R) : Calls Try.prog 43 #[.slice a0 a0n a0c] w fun e w' => ∃ v, e = .returned v ∧ R v w' :=
  calls_of_ev (args := [.slice a0 a0n a0c]) Try.func43 (Nat.le_of_ble_eq_true (by kernel_rfl)) (by rw [V43_eq]; exact h)
theorem ok43 : fnOk Try.prog 43 = true := by kernel_rfl

/-! (*depot/depotref05.Trail).Look -/
def V44 (a0 : Option Addr) (a1 : Option Addr) (a1n : Nat) (a1c : Nat) (w : World) (R : Value → World → Prop) : Prop :=
  lp (σ := Int × Unit) (fun s5 w1 k4 => match s5 with
    | (v3, _) =>
    pif (decide (v3 < (a1n : Int))) (
      ixA a1 a1n v3 1 fun p8 =>
      ldI .i64 w1 p8 fun x9 =>
      cl Try.prog 41 [.pointer a0, .int .i64 x9] w1 fun e11 w2 => ∃ x10 : Bool, e11 = Ending.returned (.bool x10) ∧
      pif (!x10) (
        R (.tuple #[.int .i8 0, .int .i64 0]) w2) (
        k4 ((IntKind.wrap .i64 (v3 + 1)), ()) w2)) (
      lp (σ := Int × Unit) (fun s17 w3 k16 => match s17 with
        | (v15, _) =>
        pif (decide (v15 < (a1n : Int))) (
          ixA a1 a1n v15 1 fun p20 =>
          ldI .i64 w3 p20 fun x21 =>
          cl Try.prog 49 [.pointer a0, .int .i64 x21] w3 fun e23 w4 => ∃ x22 : Int, e23 = Ending.returned (.int .i8 x22) ∧
          pif (x22 == 1) (
            ixA a1 a1n v15 1 fun p24 =>
            ldI .i64 (World.drew w4) p24 fun x25 =>
            R (.tuple #[.int .i8 1, .int .i64 x25]) (World.drew w4)) (
            k16 ((IntKind.wrap .i64 (v15 + 1)), ()) w4)) (
          lp (σ := Int × Int × Unit) (fun s32 w5 k31 => match s32 with
            | (v29, v30, _) =>
            pif (decide (v30 < (a1n : Int))) (
              jn (σ := Int × Unit) (fun k35 =>
                ixA a1 a1n v30 1 fun p38 =>
                ldI .i64 w5 p38 fun x39 =>
                cl Try.prog 49 [.pointer a0, .int .i64 x39] w5 fun e41 w7 => ∃ x40 : Int, e41 = Ending.returned (.int .i8 x40) ∧
                gd (α := Addr) (!(x40 != 0)) (fun k42 =>
                  ixA a1 a1n v30 1 fun p43 =>
                  k42 p43 w7) ⟨0, 0, none⟩ w7 fun x44 w8 =>
                gd (α := Int) (!(x40 != 0)) (fun k45 =>
                  ldI .i64 w8 x44 fun x46 =>
                  k45 x46 w8) 0 w8 fun x47 w9 =>
                pif (cond (x40 != 0) true (x47 == v29)) (
                  k35 (v29, ()) w9) (
                  pif (v29 != 0) (
                    R (.tuple #[.int .i8 0, .int .i64 0]) w9) (
                    ixA a1 a1n v30 1 fun p51 =>
                    ldI .i64 w9 p51 fun x52 =>
                    k35 (x52, ()) w9))) fun s36 w6 => match s36 with
              | (v34, _) =>
              k31 (v34, (IntKind.wrap .i64 (v30 + 1)), ()) w6) (
              pif (v29 == 0) (
                R (.tuple #[.int .i8 (-1), .int .i64 0]) w5) (
                R (.tuple #[.int .i8 2, .int .i64 v29]) w5))) (0, 0, ()) w3)) (0, ()) w1)) (0, ()) w
def An44 : An := .seq (.leaf) (.seq (.seq (.leaf) (.blk (.loop [(6, .one (.int .i64))] (.seq (.seq (.leaf) (.cond (.leaf) (.leaf))) (.seq (.blk (.seq (.leaf) (.cond (.seq (.leaf) (.leaf)) (.leaf)))) (.leaf)))))) (.seq (.seq (.leaf) (.blk (.loop [(7, .one (.int .i64))] (.seq (.seq (.leaf) (.cond (.leaf) (.leaf))) (.seq (.blk (.seq (.leaf) (.cond (.seq (.draw [0, 0, 3, 7, 0, 31]) (.leaf)) (.leaf)))) (.leaf)))))) (.seq (.leaf) (.seq (.seq (.leaf) (.blk (.loop [(8, .one (.int .i64)), (9, .one (.int .i64))] (.seq (.seq (.leaf) (.cond (.leaf) (.leaf))) (.seq (.join [(8, .one (.int .i64))] (.blk (.seq (.seq (.leaf) (.cond (.leaf) (.leaf))) (.seq (.seq (.leaf) (.cond (.seq (.leaf) (.leaf)) (.leaf))) (.leaf))))) (.leaf)))))) (.seq (.seq (.leaf) (.cond (.seq (.leaf) (.leaf)) (.leaf))) (.seq (.leaf) (.leaf)))))))
theorem V44_eq (a0 : Option Addr) (a1 : Option Addr) (a1n : Nat) (a1c : Nat) (w : World) (R : Value → World → Prop) : evF Try.prog Try.f44 An44 [.pointer a0, .slice a1 a1n a1c] w R = V44 a0 a1 a1n a1c w R := by kernel_rfl
theorem V44_calls (a0 : Option Addr) (a1 : Option Addr) (a1n : Nat) (a1c : Nat) (w : World) (R : Value → World → Prop) (h : V44 a0 a1 a1n a1c w R) : Calls Try.prog 44 #[.pointer a0, .slice a1 a1n a1c] w fun e w' => ∃ v, e = .returned v ∧ R v w' :=
  calls_of_ev (args := [.pointer a0, .slice a1 a1n a1c]) Try.func44 (Nat.le_of_ble_eq_true (by kernel_rfl)) (by rw [V44_eq]; exact h)
theorem ok44 : fnOk Try.prog 44 = true := by kernel_rfl

/-! depot/depotkit.Kept -/
def V45 (a0 : Option Addr) (a0n : Nat) (a0c : Nat) (a1 : Option Addr) (a1n : Nat) (a1c : Nat) (w : World) (R : Value → World → Prop) : Prop :=
  pif ((a0n : Int) != (IntKind.wrap .i64 ((a1n : Int) + 64))) (
    R (.bool false) w) (
    lp (σ := Int × Unit) (fun s7 w1 k6 => match s7 with
      | (v5, _) =>
      pif (decide (v5 < (a1n : Int))) (
        ixA a0 a0n v5 1 fun p9 =>
        ldI .i64 (World.drew w1) p9 fun x10 =>
        ixA a1 a1n v5 1 fun p11 =>
        ldI .i64 (World.drew w1) p11 fun x12 =>
        pif (x10 != x12) (
          R (.bool false) (World.drew w1)) (
          k6 ((IntKind.wrap .i64 (v5 + 1)), ()) (World.drew w1))) (
        lp (σ := Int × Unit) (fun s18 w2 k17 => match s18 with
          | (v16, _) =>
          pif (decide (v16 < 64)) (
            ixA a0 a0n (IntKind.wrap .i64 ((a1n : Int) + v16)) 1 fun p20 =>
            ldI .i64 (World.drew w2) p20 fun x21 =>
            cl Try.prog 47 [.int .i64 0, .int .i64 v16] (World.drew w2) fun e23 w3 => ∃ x22 : Int, e23 = Ending.returned (.int .i64 x22) ∧
            (
              ldI .i64 w3 p20 fun x24 =>
              ((.int .i64 x24 : Value) = .int .i64 x21)) ∧
            pif (x21 != x22) (
              R (.bool false) w3) (
              k17 ((IntKind.wrap .i64 (v16 + 1)), ()) w3)) (
            R (.bool true) w2)) (0, ()) w1)) (0, ()) w)
def An45 : An := .seq (.leaf) (.seq (.seq (.leaf) (.cond (.seq (.leaf) (.leaf)) (.leaf))) (.seq (.seq (.leaf) (.blk (.loop [(5, .one (.int .i64))] (.seq (.seq (.leaf) (.cond (.leaf) (.leaf))) (.seq (.blk (.seq (.draw [0, 0, 3, 7, 0, 0, 48, 112, 255]) (.cond (.seq (.leaf) (.leaf)) (.leaf)))) (.leaf)))))) (.seq (.seq (.leaf) (.blk (.loop [(6, .one (.int .i64))] (.seq (.seq (.leaf) (.cond (.leaf) (.leaf))) (.seq (.blk (.seq (.draw [0, 0, 2, 0, 14, 31, 63, 0, 128, 511]) (.cond (.seq (.leaf) (.leaf)) (.leaf)))) (.leaf)))))) (.seq (.leaf) (.leaf)))))
theorem V45_eq (a0 : Option Addr) (a0n : Nat) (a0c : Nat) (a1 : Option Addr) (a1n : Nat) (a1c : Nat) (w : World) (R : Value → World → Prop) : evF Try.prog Try.f45 An45 [.slice a0 a0n a0c, .slice a1 a1n a1c] w R = V45 a0 a0n a0c a1 a1n a1c w R := by kernel_rfl
theorem V45_calls (a0 : Option Addr) (a0n : Nat) (a0c : Nat) (a1 : Option Addr) (a1n : Nat) (a1c : Nat) (w : World) (R : Value → World → Prop) (h : V45 a0 a0n a0c a1 a1n a1c w R) : Calls Try.prog 45 #[.slice a0 a0n a0c, .slice a1 a1n a1c] w fun e w' => ∃ v, e = .returned v ∧ R v w' :=
  calls_of_ev (args := [.slice a0 a0n a0c, .slice a1 a1n a1c]) Try.func45 (Nat.le_of_ble_eq_true (by kernel_rfl)) (by rw [V45_eq]; exact h)
theorem ok45 : fnOk Try.prog 45 = true := by kernel_rfl

/-! depot/depotref00.CopyInts -/
def V46 (a0 : Option Addr) (a0n : Nat) (a0c : Nat) (w : World) (R : Value → World → Prop) : Prop :=
  lp (σ := (Option Addr × Nat × Nat) × Int × Unit) (fun s7 w1 k6 => match s7 with
    | ((v4, v4n, v4c), v5, _) =>
    pif (decide (v5 < (a0n : Int))) (
      ixA a0 a0n v5 1 fun p10 =>
      ldI .i64 w1 p10 fun x11 =>
      alc w1 [.int .i64 x11] 3 fun b12 w2 =>
      ∃ (x13 : Option Addr) (x13n x13c : Nat), ∃ w3 : World, (Builtin.append_ #[26, 26] 26 #[.slice v4 v4n v4c, .slice (some (⟨b12, 0, none⟩ : Addr)) 1 1]).run Try.prog w2 = .ok (.slice x13 x13n x13c) w3 ∧
      k6 ((x13, x13n, x13c), (IntKind.wrap .i64 (v5 + 1)), ()) w3) (
      R (.slice v4 v4n v4c) w1)) ((none, 0, 0), 0, ()) w
def An46 : An := .seq (.leaf) (.seq (.leaf) (.seq (.seq (.leaf) (.blk (.loop [(3, .one (.slc)), (4, .one (.int .i64))] (.seq (.seq (.leaf) (.cond (.leaf) (.leaf))) (.seq (.blk (.leaf)) (.leaf)))))) (.seq (.leaf) (.leaf))))
theorem V46_eq (a0 : Option Addr) (a0n : Nat) (a0c : Nat) (w : World) (R : Value → World → Prop) : evF Try.prog Try.f46 An46 [.slice a0 a0n a0c] w R = V46 a0 a0n a0c w R := by kernel_rfl
theorem V46_calls (a0 : Option Addr) (a0n : Nat) (a0c : Nat) (w : World) (R : Value → World → Prop) (h : V46 a0 a0n a0c w R) : Calls Try.prog 46 #[.slice a0 a0n a0c] w fun e w' => ∃ v, e = .returned v ∧ R v w' :=
  calls_of_ev (args := [.slice a0 a0n a0c]) Try.func46 (Nat.le_of_ble_eq_true (by kernel_rfl)) (by rw [V46_eq]; exact h)
theorem ok46 : fnOk Try.prog 46 = true := by kernel_rfl

/-! depot/depotkit.mark -/
def V47 (a0 : Int) (a1 : Int) (w : World) (R : Value → World → Prop) : Prop :=
  R (.int .i64 (IntKind.wrap .i64 ((IntKind.wrap .i64 (1000003 * (IntKind.wrap .i64 (a0 + 7)))) + a1))) w
def An47 : An := .seq (.leaf) (.seq (.leaf) (.leaf))
theorem V47_eq (a0 : Int) (a1 : Int) (w : World) (R : Value → World → Prop) : evF Try.prog Try.f47 An47 [.int .i64 a0, .int .i64 a1] w R = V47 a0 a1 w R := by kernel_rfl
theorem V47_calls (a0 : Int) (a1 : Int) (w : World) (R : Value → World → Prop) (h : V47 a0 a1 w R) : Calls Try.prog 47 #[.int .i64 a0, .int .i64 a1] w fun e w' => ∃ v, e = .returned v ∧ R v w' :=
  calls_of_ev (args := [.int .i64 a0, .int .i64 a1]) Try.func47 (Nat.le_of_ble_eq_true (by kernel_rfl)) (by rw [V47_eq]; exact h)
theorem ok47 : fnOk Try.prog 47 = true := by kernel_rfl

/-! (*depot/depotref05.Trail).Level -/
def V48 (a0 : Option Addr) (w : World) (R : Value → World → Prop) : Prop :=
  nn a0 fun p3 =>
  ldI .i64 w (p3.add 2) fun x4 =>
  R (.int .i64 x4) w
def An48 : An := .seq (.leaf) (.seq (.leaf) (.leaf))
theorem V48_eq (a0 : Option Addr) (w : World) (R : Value → World → Prop) : evF Try.prog Try.f48 An48 [.pointer a0] w R = V48 a0 w R := by kernel_rfl
theorem V48_calls (a0 : Option Addr) (w : World) (R : Value → World → Prop) (h : V48 a0 w R) : Calls Try.prog 48 #[.pointer a0] w fun e w' => ∃ v, e = .returned v ∧ R v w' :=
  calls_of_ev (args := [.pointer a0]) Try.func48 (Nat.le_of_ble_eq_true (by kernel_rfl)) (by rw [V48_eq]; exact h)
theorem ok48 : fnOk Try.prog 48 = true := by kernel_rfl

/-! (*depot/depotref05.Trail).Value -/
def V49 (a0 : Option Addr) (a1 : Int) (w : World) (R : Value → World → Prop) : Prop :=
  cl Try.prog 41 [.pointer a0, .int .i64 a1] w fun e4 w1 => ∃ x3 : Bool, e4 = Ending.returned (.bool x3) ∧
  pif (!x3) (
    R (.int .i8 0) w1) (
    cl Try.prog 42 [.pointer a0, .int .i64 a1] w1 fun e8 w2 => ∃ x7 : Int, e8 = Ending.returned (.int .i64 x7) ∧
    pif (decide (x7 < 0)) (
      R (.int .i8 0) w2) (
      nn a0 fun p12 =>
      ldC w2 (p12.add 1) fun x13 x13n x13c =>
      ixA x13 x13n x7 3 fun p14 =>
      ldI .i64 w2 (p14.add 0) fun x15 =>
      pif (x15 == a1) (
        R (.int .i8 1) w2) (
        R (.int .i8 (-1)) w2)))
def An49 : An := .seq (.leaf) (.seq (.seq (.leaf) (.cond (.seq (.leaf) (.leaf)) (.leaf))) (.seq (.leaf) (.seq (.seq (.leaf) (.cond (.seq (.leaf) (.leaf)) (.leaf))) (.seq (.seq (.leaf) (.cond (.seq (.leaf) (.leaf)) (.leaf))) (.seq (.leaf) (.leaf))))))
theorem V49_eq (a0 : Option Addr) (a1 : Int) (w : World) (R : Value → World → Prop) : evF Try.prog Try.f49 An49 [.pointer a0, .int .i64 a1] w R = V49 a0 a1 w R := by kernel_rfl
theorem V49_calls (a0 : Option Addr) (a1 : Int) (w : World) (R : Value → World → Prop) (h : V49 a0 a1 w R) : Calls Try.prog 49 #[.pointer a0, .int .i64 a1] w fun e w' => ∃ v, e = .returned v ∧ R v w' :=
  calls_of_ev (args := [.pointer a0, .int .i64 a1]) Try.func49 (Nat.le_of_ble_eq_true (by kernel_rfl)) (by rw [V49_eq]; exact h)
theorem ok49 : fnOk Try.prog 49 = true := by kernel_rfl

/-! (*depot/depotref05.Trail).LevelOf -/
def V50 (a0 : Option Addr) (a1 : Int) (w : World) (R : Value → World → Prop) : Prop :=
  gd (α := Bool) (!(decide (a1 < 1))) (fun k3 =>
    cl Try.prog 41 [.pointer a0, .int .i64 a1] w fun e5 w1 => ∃ x4 : Bool, e5 = Ending.returned (.bool x4) ∧
    k3 x4 w1) false w fun x6 w2 =>
  pif (cond (decide (a1 < 1)) true (!x6)) (
    R (.int .i64 (-1)) w2) (
    cl Try.prog 42 [.pointer a0, .int .i64 a1] w2 fun e10 w3 => ∃ x9 : Int, e10 = Ending.returned (.int .i64 x9) ∧
    pif (decide (x9 < 0)) (
      R (.int .i64 (-1)) w3) (
      nn a0 fun p14 =>
      ldC w3 (p14.add 1) fun x15 x15n x15c =>
      ixA x15 x15n x9 3 fun p16 =>
      ldI .i64 w3 (p16.add 1) fun x17 =>
      R (.int .i64 x17) w3))
def An50 : An := .seq (.leaf) (.seq (.seq (.leaf) (.cond (.seq (.leaf) (.leaf)) (.leaf))) (.seq (.leaf) (.seq (.seq (.leaf) (.cond (.seq (.leaf) (.leaf)) (.leaf))) (.seq (.leaf) (.leaf)))))
theorem V50_eq (a0 : Option Addr) (a1 : Int) (w : World) (R : Value → World → Prop) : evF Try.prog Try.f50 An50 [.pointer a0, .int .i64 a1] w R = V50 a0 a1 w R := by kernel_rfl
theorem V50_calls (a0 : Option Addr) (a1 : Int) (w : World) (R : Value → World → Prop) (h : V50 a0 a1 w R) : Calls Try.prog 50 #[.pointer a0, .int .i64 a1] w fun e w' => ∃ v, e = .returned v ∧ R v w' :=
  calls_of_ev (args := [.pointer a0, .int .i64 a1]) Try.func50 (Nat.le_of_ble_eq_true (by kernel_rfl)) (by rw [V50_eq]; exact h)
theorem ok50 : fnOk Try.prog 50 = true := by kernel_rfl

/-! (*depot/depotref05.Trail).Reason -/
def V51 (a0 : Option Addr) (a1 : Int) (w : World) (R : Value → World → Prop) : Prop :=
  gd (α := Bool) (!(decide (a1 < 1))) (fun k3 =>
    cl Try.prog 41 [.pointer a0, .int .i64 a1] w fun e5 w1 => ∃ x4 : Bool, e5 = Ending.returned (.bool x4) ∧
    k3 x4 w1) false w fun x6 w2 =>
  pif (cond (decide (a1 < 1)) true (!x6)) (
    R (.int .i64 (-1)) w2) (
    cl Try.prog 42 [.pointer a0, .int .i64 a1] w2 fun e10 w3 => ∃ x9 : Int, e10 = Ending.returned (.int .i64 x9) ∧
    pif (decide (x9 < 0)) (
      R (.int .i64 (-1)) w3) (
      nn a0 fun p14 =>
      ldC w3 (p14.add 1) fun x15 x15n x15c =>
      ixA x15 x15n x9 3 fun p16 =>
      ldI .i64 w3 (p16.add 2) fun x17 =>
      R (.int .i64 x17) w3))
def An51 : An := .seq (.leaf) (.seq (.seq (.leaf) (.cond (.seq (.leaf) (.leaf)) (.leaf))) (.seq (.leaf) (.seq (.seq (.leaf) (.cond (.seq (.leaf) (.leaf)) (.leaf))) (.seq (.leaf) (.leaf)))))
theorem V51_eq (a0 : Option Addr) (a1 : Int) (w : World) (R : Value → World → Prop) : evF Try.prog Try.f51 An51 [.pointer a0, .int .i64 a1] w R = V51 a0 a1 w R := by kernel_rfl
theorem V51_calls (a0 : Option Addr) (a1 : Int) (w : World) (R : Value → World → Prop) (h : V51 a0 a1 w R) : Calls Try.prog 51 #[.pointer a0, .int .i64 a1] w fun e w' => ∃ v, e = .returned v ∧ R v w' :=
  calls_of_ev (args := [.pointer a0, .int .i64 a1]) Try.func51 (Nat.le_of_ble_eq_true (by kernel_rfl)) (by rw [V51_eq]; exact h)
theorem ok51 : fnOk Try.prog 51 = true := by kernel_rfl

/-! depot/lits.Var -/
def V52 (a0 : Int) (w : World) (R : Value → World → Prop) : Prop :=
  cl Try.prog 54 [.int .i64 a0] w fun e4 w1 => ∃ x3 : Bool, e4 = Ending.returned (.bool x3) ∧
  pif (!x3) (
    R (.int .i64 0) w1) (
    pif (decide (a0 < 0)) (
      R (.int .i64 (IntKind.wrap .i64 (0 - a0))) w1) (
      R (.int .i64 a0) w1))
def An52 : An := .seq (.leaf) (.seq (.blk (.seq (.leaf) (.cond (.seq (.leaf) (.leaf)) (.seq (.leaf) (.cond (.seq (.leaf) (.leaf)) (.leaf)))))) (.seq (.leaf) (.leaf)))
theorem V52_eq (a0 : Int) (w : World) (R : Value → World → Prop) : evF Try.prog Try.f52 An52 [.int .i64 a0] w R = V52 a0 w R := by kernel_rfl
theorem V52_calls (a0 : Int) (w : World) (R : Value → World → Prop) (h : V52 a0 w R) : Calls Try.prog 52 #[.int .i64 a0] w fun e w' => ∃ v, e = .returned v ∧ R v w' :=
  calls_of_ev (args := [.int .i64 a0]) Try.func52 (Nat.le_of_ble_eq_true (by kernel_rfl)) (by rw [V52_eq]; exact h)
theorem ok52 : fnOk Try.prog 52 = true := by kernel_rfl

/-! depot/depotref01.Formed -/
def V53 (a0 : Int) (w : World) (R : Value → World → Prop) : Prop :=
  R (.bool (cond (cond (decide (a0 ≥ 1)) (decide (a0 ≤ 1048576)) false) true (cond (decide (a0 ≥ (-1048576))) (decide (a0 ≤ (-1))) false))) w
def An53 : An := .seq (.leaf) (.seq (.leaf) (.leaf))
theorem V53_eq (a0 : Int) (w : World) (R : Value → World → Prop) : evF Try.prog Try.f53 An53 [.int .i64 a0] w R = V53 a0 w R := by kernel_rfl
theorem V53_calls (a0 : Int) (w : World) (R : Value → World → Prop) (h : V53 a0 w R) : Calls Try.prog 53 #[.int .i64 a0] w fun e w' => ∃ v, e = .returned v ∧ R v w' :=
  calls_of_ev (args := [.int .i64 a0]) Try.func53 (Nat.le_of_ble_eq_true (by kernel_rfl)) (by rw [V53_eq]; exact h)
theorem ok53 : fnOk Try.prog 53 = true := by kernel_rfl

/-! depot/lits.Formed -/
def V54 (a0 : Int) (w : World) (R : Value → World → Prop) : Prop :=
  R (.bool (cond (cond (a0 != 0) (decide (a0 ≥ (-1048576))) false) (decide (a0 ≤ 1048576)) false)) w
def An54 : An := .seq (.leaf) (.seq (.leaf) (.leaf))
theorem V54_eq (a0 : Int) (w : World) (R : Value → World → Prop) : evF Try.prog Try.f54 An54 [.int .i64 a0] w R = V54 a0 w R := by kernel_rfl
theorem V54_calls (a0 : Int) (w : World) (R : Value → World → Prop) (h : V54 a0 w R) : Calls Try.prog 54 #[.int .i64 a0] w fun e w' => ∃ v, e = .returned v ∧ R v w' :=
  calls_of_ev (args := [.int .i64 a0]) Try.func54 (Nat.le_of_ble_eq_true (by kernel_rfl)) (by rw [V54_eq]; exact h)
theorem ok54 : fnOk Try.prog 54 = true := by kernel_rfl

end Go.Proofs.Ytioaaeianjgaoaa.T
