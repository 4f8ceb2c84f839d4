/- The conditions under which the functions printed here return, as propositions over typed values; each is the machine's own, by the generator's theorem. -/
import Derived.Test.YtkpoagdhekimpaaProg
import Derived.Test.YtkpoagdhekimpaaVcG
set_option linter.unusedVariables false
set_option maxRecDepth 100000
namespace Go.Proofs.Ytkpoagdhekimpaa.T
open Go Go.Proofs.Ytkpoagdhekimpaa.Vc
/-! depot/depotlaw13.PaceMakes -/
def V7 (a0_0 : Int) (a0_1 : Int) (a0_2 : Int) (a0_3 : Nat) (a0_4 : Int) (a0_5 : Int) (a1_0 : Int) (a1_1 : Int) (a1_2 : Int) (a1_3 : Nat) (a1_4 : Int) (a1_5 : Int) (a2 : Option Addr) (a2n : Nat) (a2c : Nat) (w : World) (R : Value → World → Prop) : Prop :=
  alc w [.int .i64 a0_0, .int .i64 a0_1, .int .i64 a0_2, .float .f64 a0_3, .int .i64 a0_4, .int .i64 a0_5] 24 fun b2 w1 =>
  alc w1 [.int .i64 a1_0, .int .i64 a1_1, .int .i64 a1_2, .float .f64 a1_3, .int .i64 a1_4, .int .i64 a1_5] 24 fun b3 w2 =>
  ldI .i64 w2 ((⟨b2, 0, none⟩ : Addr).add 0) fun x5 =>
  ldI .i64 w2 ((⟨b2, 0, none⟩ : Addr).add 1) fun x6 =>
  ldI .i64 w2 ((⟨b2, 0, none⟩ : Addr).add 2) fun x7 =>
  ldF .f64 w2 ((⟨b2, 0, none⟩ : Addr).add 3) fun x8 =>
  ldI .i64 w2 ((⟨b2, 0, none⟩ : Addr).add 4) fun x9 =>
  ldI .i64 w2 ((⟨b2, 0, none⟩ : Addr).add 5) fun x10 =>
  cl Try.prog 18 [.agg #[.int .i64 x5, .int .i64 x6, .int .i64 x7, .float .f64 x8, .int .i64 x9, .int .i64 x10]] w2 fun e15 w3 => ∃ x11 : Value, ∃ x12 : Value, ∃ x13 : Value, ∃ x14 : Int, e15 = Ending.returned (.tuple #[.agg #[x11, x12, x13], .int .i64 x14]) ∧
  alc w3 [.nilFunc, .nilFunc, .nilFunc] 34 fun b16 w4 =>
  st w4 ((⟨b16, 0, none⟩ : Addr).add 0) (x11) fun w5 =>
  st w5 ((⟨b16, 0, none⟩ : Addr).add 1) (x12) fun w6 =>
  st w6 ((⟨b16, 0, none⟩ : Addr).add 2) (x13) fun w7 =>
  ldI .i64 w7 ((⟨b3, 0, none⟩ : Addr).add 0) fun x18 =>
  ldI .i64 w7 ((⟨b3, 0, none⟩ : Addr).add 1) fun x19 =>
  ldI .i64 w7 ((⟨b3, 0, none⟩ : Addr).add 2) fun x20 =>
  ldF .f64 w7 ((⟨b3, 0, none⟩ : Addr).add 3) fun x21 =>
  ldI .i64 w7 ((⟨b3, 0, none⟩ : Addr).add 4) fun x22 =>
  ldI .i64 w7 ((⟨b3, 0, none⟩ : Addr).add 5) fun x23 =>
  cl Try.prog 18 [.agg #[.int .i64 x18, .int .i64 x19, .int .i64 x20, .float .f64 x21, .int .i64 x22, .int .i64 x23]] w7 fun e28 w8 => ∃ x24 : Value, ∃ x25 : Value, ∃ x26 : Value, ∃ x27 : Int, e28 = Ending.returned (.tuple #[.agg #[x24, x25, x26], .int .i64 x27]) ∧
  alc w8 [.nilFunc, .nilFunc, .nilFunc] 34 fun b29 w9 =>
  st w9 ((⟨b29, 0, none⟩ : Addr).add 0) (x24) fun w10 =>
  st w10 ((⟨b29, 0, none⟩ : Addr).add 1) (x25) fun w11 =>
  st w11 ((⟨b29, 0, none⟩ : Addr).add 2) (x26) fun w12 =>
  ldI .i64 w12 ((⟨b2, 0, none⟩ : Addr).add 0) fun x31 =>
  ldI .i64 w12 ((⟨b2, 0, none⟩ : Addr).add 1) fun x32 =>
  ldI .i64 w12 ((⟨b2, 0, none⟩ : Addr).add 2) fun x33 =>
  ldF .f64 w12 ((⟨b2, 0, none⟩ : Addr).add 3) fun x34 =>
  ldI .i64 w12 ((⟨b2, 0, none⟩ : Addr).add 4) fun x35 =>
  ldI .i64 w12 ((⟨b2, 0, none⟩ : Addr).add 5) fun x36 =>
  cl Try.prog 19 [.agg #[.int .i64 x31, .int .i64 x32, .int .i64 x33, .float .f64 x34, .int .i64 x35, .int .i64 x36]] w12 fun e39 w13 => ∃ x37 : Option Addr, ∃ x38 : Int, e39 = Ending.returned (.tuple #[.pointer x37, .int .i64 x38]) ∧
  ldI .i64 w13 ((⟨b3, 0, none⟩ : Addr).add 0) fun x41 =>
  ldI .i64 w13 ((⟨b3, 0, none⟩ : Addr).add 1) fun x42 =>
  ldI .i64 w13 ((⟨b3, 0, none⟩ : Addr).add 2) fun x43 =>
  ldF .f64 w13 ((⟨b3, 0, none⟩ : Addr).add 3) fun x44 =>
  ldI .i64 w13 ((⟨b3, 0, none⟩ : Addr).add 4) fun x45 =>
  ldI .i64 w13 ((⟨b3, 0, none⟩ : Addr).add 5) fun x46 =>
  cl Try.prog 19 [.agg #[.int .i64 x41, .int .i64 x42, .int .i64 x43, .float .f64 x44, .int .i64 x45, .int .i64 x46]] w13 fun e49 w14 => ∃ x47 : Option Addr, ∃ x48 : Int, e49 = Ending.returned (.tuple #[.pointer x47, .int .i64 x48]) ∧
  pif (cond (x14 != x38) true (x27 != x48)) (
    R (.bool false) w14) (
    gd (α := Value) (x14 != 0) (fun k53 =>
      ldV w14 ((⟨b16, 0, none⟩ : Addr).add 0) fun x54 =>
      k53 x54 w14) undef w14 fun x55 w15 =>
    gd (α := Bool) (x14 != 0) (fun k56 =>
      isFn (x55) = true ∧
      k56 (!(isNilF (x55))) w15) false w15 fun x57 w16 =>
    gd (α := Value) ((x14 != 0) && (!x57)) (fun k58 =>
      ldV w16 ((⟨b16, 0, none⟩ : Addr).add 1) fun x59 =>
      k58 x59 w16) undef w16 fun x60 w17 =>
    gd (α := Bool) ((x14 != 0) && (!x57)) (fun k61 =>
      isFn (x60) = true ∧
      k61 (!(isNilF (x60))) w17) false w17 fun x62 w18 =>
    gd (α := Value) ((x14 != 0) && (!(cond x57 true x62))) (fun k63 =>
      ldV w18 ((⟨b16, 0, none⟩ : Addr).add 2) fun x64 =>
      k63 x64 w18) undef w18 fun x65 w19 =>
    gd (α := Bool) ((x14 != 0) && (!(cond x57 true x62))) (fun k66 =>
      isFn (x65) = true ∧
      k66 (!(isNilF (x65))) w19) false w19 fun x67 w20 =>
    pif (cond (x14 != 0) (cond (cond x57 true x62) true x67) false) (
      R (.bool false) w20) (
      pif (cond (x14 != 0) true (x27 != 0)) (
        R (.bool true) w20) (
        ldV w20 ((⟨b16, 0, none⟩ : Addr).add 0) fun x72 =>
        isFn (x72) = true ∧
        gd (α := Value) (!(isNilF (x72))) (fun k73 =>
          ldV w20 ((⟨b16, 0, none⟩ : Addr).add 1) fun x74 =>
          k73 x74 w20) undef w20 fun x75 w21 =>
        gd (α := Bool) (!(isNilF (x72))) (fun k76 =>
          isFn (x75) = true ∧
          k76 (isNilF (x75)) w21) false w21 fun x77 w22 =>
        gd (α := Value) (!(cond (isNilF (x72)) true x77)) (fun k78 =>
          ldV w22 ((⟨b16, 0, none⟩ : Addr).add 2) fun x79 =>
          k78 x79 w22) undef w22 fun x80 w23 =>
        gd (α := Bool) (!(cond (isNilF (x72)) true x77)) (fun k81 =>
          isFn (x80) = true ∧
          k81 (isNilF (x80)) w23) false w23 fun x82 w24 =>
        gd (α := Value) (!(cond (cond (isNilF (x72)) true x77) true x82)) (fun k83 =>
          ldV w24 ((⟨b29, 0, none⟩ : Addr).add 0) fun x84 =>
          k83 x84 w24) undef w24 fun x85 w25 =>
        gd (α := Bool) (!(cond (cond (isNilF (x72)) true x77) true x82)) (fun k86 =>
          isFn (x85) = true ∧
          k86 (isNilF (x85)) w25) false w25 fun x87 w26 =>
        gd (α := Value) (!(cond (cond (cond (isNilF (x72)) true x77) true x82) true x87)) (fun k88 =>
          ldV w26 ((⟨b29, 0, none⟩ : Addr).add 1) fun x89 =>
          k88 x89 w26) undef w26 fun x90 w27 =>
        gd (α := Bool) (!(cond (cond (cond (isNilF (x72)) true x77) true x82) true x87)) (fun k91 =>
          isFn (x90) = true ∧
          k91 (isNilF (x90)) w27) false w27 fun x92 w28 =>
        gd (α := Value) (!(cond (cond (cond (cond (isNilF (x72)) true x77) true x82) true x87) true x92)) (fun k93 =>
          ldV w28 ((⟨b29, 0, none⟩ : Addr).add 2) fun x94 =>
          k93 x94 w28) undef w28 fun x95 w29 =>
        gd (α := Bool) (!(cond (cond (cond (cond (isNilF (x72)) true x77) true x82) true x87) true x92)) (fun k96 =>
          isFn (x95) = true ∧
          k96 (isNilF (x95)) w29) false w29 fun x97 w30 =>
        pif (cond (cond (cond (cond (cond (isNilF (x72)) true x77) true x82) true x87) true x92) true x97) (
          R (.bool false) w30) (
          lp (σ := Int × Unit) (fun s102 w31 k101 => match s102 with
            | (v100, _) =>
            pif (decide (v100 < (a2n : Int))) (
              ldV (World.drew w31) ((⟨b16, 0, none⟩ : Addr).add 0) fun x104 =>
              ldV (World.drew w31) ((⟨b16, 0, none⟩ : Addr).add 1) fun x105 =>
              ldV (World.drew w31) ((⟨b16, 0, none⟩ : Addr).add 2) fun x106 =>
              ixA a2 a2n v100 1 fun p107 =>
              ldI .i64 (World.drew w31) p107 fun x108 =>
              cl Try.prog 20 [.agg #[x104, x105, x106], .pointer x37, .int .i64 (IntKind.wrap .i64 (0 - x108))] (World.drew w31) fun e110 w32 => ∃ x109 : Bool, e110 = Ending.returned (.bool x109) ∧
              jn (σ := Bool × Unit) (fun k112 =>
                ixA a2 a2n v100 1 fun p115 =>
                ldI .i64 w32 p115 fun x116 =>
                pif (decide (x116 ≥ 0)) (
                  ldV (World.drew w32) ((⟨b29, 0, none⟩ : Addr).add 0) fun x117 =>
                  ldV (World.drew w32) ((⟨b29, 0, none⟩ : Addr).add 1) fun x118 =>
                  ldV (World.drew w32) ((⟨b29, 0, none⟩ : Addr).add 2) fun x119 =>
                  ixA a2 a2n v100 1 fun p120 =>
                  ldI .i64 (World.drew w32) p120 fun x121 =>
                  cl Try.prog 20 [.agg #[x117, x118, x119], .pointer x47, .int .i64 x121] (World.drew w32) fun e123 w34 => ∃ x122 : Bool, e123 = Ending.returned (.bool x122) ∧
                  k112 (x122, ()) w34) (
                  k112 (x109, ()) w32)) fun s113 w33 => match s113 with
              | (v111, _) =>
              pif (!v111) (
                R (.bool false) w33) (
                k101 ((IntKind.wrap .i64 (v100 + 1)), ()) w33)) (
              ldV w31 ((⟨b16, 0, none⟩ : Addr).add 0) fun x128 =>
              ldV w31 ((⟨b16, 0, none⟩ : Addr).add 1) fun x129 =>
              ldV w31 ((⟨b16, 0, none⟩ : Addr).add 2) fun x130 =>
              cl Try.prog 20 [.agg #[x128, x129, x130], .pointer x37, .int .i64 3000] w31 fun e132 w35 => ∃ x131 : Bool, e132 = Ending.returned (.bool x131) ∧
              gd (α := (Value × Value × Value × Unit)) x131 (fun k133 =>
                ldV w35 ((⟨b16, 0, none⟩ : Addr).add 0) fun x134 =>
                ldV w35 ((⟨b16, 0, none⟩ : Addr).add 1) fun x135 =>
                ldV w35 ((⟨b16, 0, none⟩ : Addr).add 2) fun x136 =>
                k133 (x134, x135, x136, ()) w35) (undef, undef, undef, ()) w35 fun x137 w36 =>
              gd (α := Bool) x131 (fun k138 =>
                cl Try.prog 20 [.agg #[x137.1, x137.2.1, x137.2.2.1], .pointer x37, .int .i64 1] w36 fun e140 w37 => ∃ x139 : Bool, e140 = Ending.returned (.bool x139) ∧
                k138 x139 w37) false w36 fun x141 w38 =>
              gd (α := (Value × Value × Value × Unit)) (cond x131 x141 false) (fun k142 =>
                ldV w38 ((⟨b16, 0, none⟩ : Addr).add 0) fun x143 =>
                ldV w38 ((⟨b16, 0, none⟩ : Addr).add 1) fun x144 =>
                ldV w38 ((⟨b16, 0, none⟩ : Addr).add 2) fun x145 =>
                k142 (x143, x144, x145, ()) w38) (undef, undef, undef, ()) w38 fun x146 w39 =>
              gd (α := Bool) (cond x131 x141 false) (fun k147 =>
                cl Try.prog 20 [.agg #[x146.1, x146.2.1, x146.2.2.1], .pointer x37, .int .i64 2] w39 fun e149 w40 => ∃ x148 : Bool, e149 = Ending.returned (.bool x148) ∧
                k147 x148 w40) false w39 fun x150 w41 =>
              R (.bool (cond (cond x131 x141 false) x150 false)) w41)) (0, ()) w30))))
def An7 : An := .seq (.leaf) (.seq (.leaf) (.seq (.leaf) (.seq (.leaf) (.seq (.leaf) (.seq (.seq (.leaf) (.cond (.seq (.leaf) (.leaf)) (.leaf))) (.seq (.seq (.leaf) (.cond (.seq (.leaf) (.leaf)) (.leaf))) (.seq (.seq (.leaf) (.cond (.seq (.leaf) (.leaf)) (.leaf))) (.seq (.seq (.leaf) (.cond (.seq (.leaf) (.leaf)) (.leaf))) (.seq (.seq (.leaf) (.blk (.loop [(15, .one (.int .i64))] (.seq (.seq (.leaf) (.cond (.leaf) (.leaf))) (.seq (.blk (.seq (.draw [0, 0, 0, 0, 12, 28, 60, 127, 255]) (.seq (.join [(16, .one (.bool))] (.seq (.leaf) (.cond (.draw [0, 0, 0, 0, 12, 28, 63, 127]) (.leaf)))) (.seq (.leaf) (.cond (.seq (.leaf) (.leaf)) (.leaf)))))) (.leaf)))))) (.seq (.leaf) (.leaf)))))))))))
theorem V7_eq (a0_0 : Int) (a0_1 : Int) (a0_2 : Int) (a0_3 : Nat) (a0_4 : Int) (a0_5 : Int) (a1_0 : Int) (a1_1 : Int) (a1_2 : Int) (a1_3 : Nat) (a1_4 : Int) (a1_5 : Int) (a2 : Option Addr) (a2n : Nat) (a2c : Nat) (w : World) (R : Value → World → Prop) : evF Try.prog Try.f7 An7 [.agg #[.int .i64 a0_0, .int .i64 a0_1, .int .i64 a0_2, .float .f64 a0_3, .int .i64 a0_4, .int .i64 a0_5], .agg #[.int .i64 a1_0, .int .i64 a1_1, .int .i64 a1_2, .float .f64 a1_3, .int .i64 a1_4, .int .i64 a1_5], .slice a2 a2n a2c] w R = V7 a0_0 a0_1 a0_2 a0_3 a0_4 a0_5 a1_0 a1_1 a1_2 a1_3 a1_4 a1_5 a2 a2n a2c w R := by kernel_rfl
theorem V7_calls (a0_0 : Int) (a0_1 : Int) (a0_2 : Int) (a0_3 : Nat) (a0_4 : Int) (a0_5 : Int) (a1_0 : Int) (a1_1 : Int) (a1_2 : Int) (a1_3 : Nat) (a1_4 : Int) (a1_5 : Int) (a2 : Option Addr) (a2n : Nat) (a2c : Nat) (w : World) (R : Value → World → Prop) (h : V7 a0_0 a0_1 a0_2 a0_3 a0_4 a0_5 a1_0 a1_1 a1_2 a1_3 a1_4 a1_5 a2 a2n a2c w R) : Calls Try.prog 7 #[.agg #[.int .i64 a0_0, .int .i64 a0_1, .int .i64 a0_2, .float .f64 a0_3, .int .i64 a0_4, .int .i64 a0_5], .agg #[.int .i64 a1_0, .int .i64 a1_1, .int .i64 a1_2, .float .f64 a1_3, .int .i64 a1_4, .int .i64 a1_5], .slice a2 a2n a2c] w fun e w' => ∃ v, e = .returned v ∧ R v w' :=
  calls_of_ev (args := [.agg #[.int .i64 a0_0, .int .i64 a0_1, .int .i64 a0_2, .float .f64 a0_3, .int .i64 a0_4, .int .i64 a0_5], .agg #[.int .i64 a1_0, .int .i64 a1_1, .int .i64 a1_2, .float .f64 a1_3, .int .i64 a1_4, .int .i64 a1_5], .slice a2 a2n a2c]) Try.func7 (Nat.le_of_ble_eq_true (by kernel_rfl)) (by rw [V7_eq]; exact h)
theorem ok7 : fnOk Try.prog 7 = true := by kernel_rfl

/-! depot/pace.Make -/
def V18 (a0_0 : Int) (a0_1 : Int) (a0_2 : Int) (a0_3 : Nat) (a0_4 : Int) (a0_5 : Int) (w : World) (R : Value → World → Prop) : Prop :=
  alc w [.int .i64 a0_0, .int .i64 a0_1, .int .i64 a0_2, .float .f64 a0_3, .int .i64 a0_4, .int .i64 a0_5] 24 fun b2 w1 =>
  alc w1 [.nilFunc, .nilFunc, .nilFunc] 34 fun b3 w2 =>
  ldI .i64 w2 ((⟨b2, 0, none⟩ : Addr).add 0) fun x5 =>
  ldI .i64 w2 ((⟨b2, 0, none⟩ : Addr).add 1) fun x6 =>
  ldI .i64 w2 ((⟨b2, 0, none⟩ : Addr).add 2) fun x7 =>
  ldF .f64 w2 ((⟨b2, 0, none⟩ : Addr).add 3) fun x8 =>
  ldI .i64 w2 ((⟨b2, 0, none⟩ : Addr).add 4) fun x9 =>
  ldI .i64 w2 ((⟨b2, 0, none⟩ : Addr).add 5) fun x10 =>
  cl Try.prog 13 [.agg #[.int .i64 x5, .int .i64 x6, .int .i64 x7, .float .f64 x8, .int .i64 x9, .int .i64 x10]] w2 fun e12 w3 => ∃ x11 : Bool, e12 = Ending.returned (.bool x11) ∧
  pif (!x11) (
    st w3 ((⟨b3, 0, none⟩ : Addr).add 0) (.nilFunc) fun w4 =>
    st w4 ((⟨b3, 0, none⟩ : Addr).add 1) (.nilFunc) fun w5 =>
    st w5 ((⟨b3, 0, none⟩ : Addr).add 2) (.nilFunc) fun w6 =>
    ldV w6 ((⟨b3, 0, none⟩ : Addr).add 0) fun x14 =>
    ldV w6 ((⟨b3, 0, none⟩ : Addr).add 1) fun x15 =>
    ldV w6 ((⟨b3, 0, none⟩ : Addr).add 2) fun x16 =>
    R (.tuple #[.agg #[x14, x15, x16], .int .i64 1]) w6) (
    alc w3 [.int .i64 0] 3 fun b18 w7 =>
    alc w7 [.int .i64 0] 3 fun b19 w8 =>
    alc w8 [.int .i64 0] 3 fun b20 w9 =>
    st w9 ((⟨b18, 0, none⟩ : Addr).add 0) (.int .i64 0) fun w10 =>
    st w10 ((⟨b19, 0, none⟩ : Addr).add 0) (.int .i64 0) fun w11 =>
    st w11 ((⟨b20, 0, none⟩ : Addr).add 0) (.int .i64 0) fun w12 =>
    alc w12 [.int .i64 0] 3 fun b22 w13 =>
    alc w13 [.int .i64 0] 3 fun b23 w14 =>
    st w14 ((⟨b22, 0, none⟩ : Addr).add 0) (.int .i64 1) fun w15 =>
    st w15 ((⟨b23, 0, none⟩ : Addr).add 0) (.int .i64 0) fun w16 =>
    st w16 ((⟨b3, 0, none⟩ : Addr).add 0) (.func (.func 28) #[] #[.pointer (some (⟨b18, 0, none⟩ : Addr))]) fun w17 =>
    st w17 ((⟨b3, 0, none⟩ : Addr).add 1) (.func (.func 29) #[] #[.pointer (some (⟨b18, 0, none⟩ : Addr)), .pointer (some (⟨b19, 0, none⟩ : Addr)), .pointer (some (⟨b2, 0, none⟩ : Addr)), .pointer (some (⟨b22, 0, none⟩ : Addr))]) fun w18 =>
    st w18 ((⟨b3, 0, none⟩ : Addr).add 2) (.func (.func 30) #[] #[.pointer (some (⟨b18, 0, none⟩ : Addr)), .pointer (some (⟨b20, 0, none⟩ : Addr)), .pointer (some (⟨b2, 0, none⟩ : Addr)), .pointer (some (⟨b23, 0, none⟩ : Addr))]) fun w19 =>
    ldV w19 ((⟨b3, 0, none⟩ : Addr).add 0) fun x25 =>
    ldV w19 ((⟨b3, 0, none⟩ : Addr).add 1) fun x26 =>
    ldV w19 ((⟨b3, 0, none⟩ : Addr).add 2) fun x27 =>
    R (.tuple #[.agg #[x25, x26, x27], .int .i64 0]) w19)
def An18 : An := .seq (.leaf) (.seq (.seq (.leaf) (.cond (.seq (.leaf) (.leaf)) (.leaf))) (.seq (.leaf) (.seq (.leaf) (.seq (.leaf) (.leaf)))))
theorem V18_eq (a0_0 : Int) (a0_1 : Int) (a0_2 : Int) (a0_3 : Nat) (a0_4 : Int) (a0_5 : Int) (w : World) (R : Value → World → Prop) : evF Try.prog Try.f18 An18 [.agg #[.int .i64 a0_0, .int .i64 a0_1, .int .i64 a0_2, .float .f64 a0_3, .int .i64 a0_4, .int .i64 a0_5]] w R = V18 a0_0 a0_1 a0_2 a0_3 a0_4 a0_5 w R := by kernel_rfl
theorem V18_calls (a0_0 : Int) (a0_1 : Int) (a0_2 : Int) (a0_3 : Nat) (a0_4 : Int) (a0_5 : Int) (w : World) (R : Value → World → Prop) (h : V18 a0_0 a0_1 a0_2 a0_3 a0_4 a0_5 w R) : Calls Try.prog 18 #[.agg #[.int .i64 a0_0, .int .i64 a0_1, .int .i64 a0_2, .float .f64 a0_3, .int .i64 a0_4, .int .i64 a0_5]] w fun e w' => ∃ v, e = .returned v ∧ R v w' :=
  calls_of_ev (args := [.agg #[.int .i64 a0_0, .int .i64 a0_1, .int .i64 a0_2, .float .f64 a0_3, .int .i64 a0_4, .int .i64 a0_5]]) Try.func18 (Nat.le_of_ble_eq_true (by kernel_rfl)) (by rw [V18_eq]; exact h)
theorem ok18 : fnOk Try.prog 18 = true := by kernel_rfl

/-! depot/depotref13.Make -/
def V19 (a0_0 : Int) (a0_1 : Int) (a0_2 : Int) (a0_3 : Nat) (a0_4 : Int) (a0_5 : Int) (w : World) (R : Value → World → Prop) : Prop :=
  alc w [.int .i64 a0_0, .int .i64 a0_1, .int .i64 a0_2, .float .f64 a0_3, .int .i64 a0_4, .int .i64 a0_5] 24 fun b2 w1 =>
  ldI .i64 w1 ((⟨b2, 0, none⟩ : Addr).add 0) fun x4 =>
  ldI .i64 w1 ((⟨b2, 0, none⟩ : Addr).add 1) fun x5 =>
  ldI .i64 w1 ((⟨b2, 0, none⟩ : Addr).add 2) fun x6 =>
  ldF .f64 w1 ((⟨b2, 0, none⟩ : Addr).add 3) fun x7 =>
  ldI .i64 w1 ((⟨b2, 0, none⟩ : Addr).add 4) fun x8 =>
  ldI .i64 w1 ((⟨b2, 0, none⟩ : Addr).add 5) fun x9 =>
  cl Try.prog 14 [.agg #[.int .i64 x4, .int .i64 x5, .int .i64 x6, .float .f64 x7, .int .i64 x8, .int .i64 x9]] w1 fun e11 w2 => ∃ x10 : Bool, e11 = Ending.returned (.bool x10) ∧
  pif (!x10) (
    R (.tuple #[.pointer none, .int .i64 1]) w2) (
    ldI .i64 w2 ((⟨b2, 0, none⟩ : Addr).add 0) fun x14 =>
    ldI .i64 w2 ((⟨b2, 0, none⟩ : Addr).add 1) fun x15 =>
    ldI .i64 w2 ((⟨b2, 0, none⟩ : Addr).add 2) fun x16 =>
    ldF .f64 w2 ((⟨b2, 0, none⟩ : Addr).add 3) fun x17 =>
    ldI .i64 w2 ((⟨b2, 0, none⟩ : Addr).add 4) fun x18 =>
    ldI .i64 w2 ((⟨b2, 0, none⟩ : Addr).add 5) fun x19 =>
    alc w2 [.int .i64 x14, .int .i64 x15, .int .i64 x16, .float .f64 x17, .int .i64 x18, .int .i64 x19, .int .i64 0, .int .i64 0, .int .i64 0, .int .i64 0] 59 fun b20 w3 =>
    R (.tuple #[.pointer (some (⟨b20, 0, none⟩ : Addr)), .int .i64 0]) w3)
def An19 : An := .seq (.leaf) (.seq (.seq (.leaf) (.cond (.seq (.leaf) (.leaf)) (.leaf))) (.seq (.leaf) (.leaf)))
theorem V19_eq (a0_0 : Int) (a0_1 : Int) (a0_2 : Int) (a0_3 : Nat) (a0_4 : Int) (a0_5 : Int) (w : World) (R : Value → World → Prop) : evF Try.prog Try.f19 An19 [.agg #[.int .i64 a0_0, .int .i64 a0_1, .int .i64 a0_2, .float .f64 a0_3, .int .i64 a0_4, .int .i64 a0_5]] w R = V19 a0_0 a0_1 a0_2 a0_3 a0_4 a0_5 w R := by kernel_rfl
theorem V19_calls (a0_0 : Int) (a0_1 : Int) (a0_2 : Int) (a0_3 : Nat) (a0_4 : Int) (a0_5 : Int) (w : World) (R : Value → World → Prop) (h : V19 a0_0 a0_1 a0_2 a0_3 a0_4 a0_5 w R) : Calls Try.prog 19 #[.agg #[.int .i64 a0_0, .int .i64 a0_1, .int .i64 a0_2, .float .f64 a0_3, .int .i64 a0_4, .int .i64 a0_5]] w fun e w' => ∃ v, e = .returned v ∧ R v w' :=
  calls_of_ev (args := [.agg #[.int .i64 a0_0, .int .i64 a0_1, .int .i64 a0_2, .float .f64 a0_3, .int .i64 a0_4, .int .i64 a0_5]]) Try.func19 (Nat.le_of_ble_eq_true (by kernel_rfl)) (by rw [V19_eq]; exact h)
theorem ok19 : fnOk Try.prog 19 = true := by kernel_rfl

/-! depot/depotlaw13.step -/
def V20 (a0_0 : Value) (a0_1 : Value) (a0_2 : Value) (a1 : Option Addr) (a2 : Int) (w : World) (R : Value → World → Prop) : Prop :=
  alc w [a0_0, a0_1, a0_2] 34 fun b2 w1 =>
  pif (decide (a2 < 0)) (
    R (.bool true) w1) (
    pif (decide (a2 ≥ 30)) (
      jn (σ := Int × Unit) (fun k7 =>
        pif (decide (a2 > 3000)) (
          k7 (3000, ()) w1) (
          k7 (a2, ()) w1)) fun s8 w2 => match s8 with
      | (v6, _) =>
      lp (σ := Int × Unit) (fun s14 w3 k13 => match s14 with
        | (v12, _) =>
        pif (decide (v12 < v6)) (
          ldV w3 ((⟨b2, 0, none⟩ : Addr).add 0) fun x17 =>
          clF Try.prog (x17) [] w3 fun e18 w4 => e18 = Ending.returned (.tuple #[]) ∧
          cl Try.prog 31 [.pointer a1] w4 fun e20 w5 => e20 = Ending.returned (.tuple #[]) ∧
          k13 ((IntKind.wrap .i64 (v12 + 1)), ()) w5) (
          R (.bool true) w3)) (0, ()) w2) (
      jn (σ := Unit) (fun k23 =>
        pif ((Int.tmod a2 3) == 0) (
          ldV w1 ((⟨b2, 0, none⟩ : Addr).add 0) fun x28 =>
          clF Try.prog (x28) [] w1 fun e29 w7 => e29 = Ending.returned (.tuple #[]) ∧
          cl Try.prog 31 [.pointer a1] w7 fun e31 w8 => e31 = Ending.returned (.tuple #[]) ∧
          k23 (()) w8) (
          pif ((Int.tmod a2 3) == 1) (
            ldV w1 ((⟨b2, 0, none⟩ : Addr).add 1) fun x34 =>
            clF Try.prog (x34) [] w1 fun e36 w9 => ∃ x35 : Bool, e36 = Ending.returned (.bool x35) ∧
            cl Try.prog 32 [.pointer a1] w9 fun e39 w10 => ∃ x38 : Bool, e39 = Ending.returned (.bool x38) ∧
            R (.bool (x35 == x38)) w10) (
            pif ((Int.tmod a2 3) == 2) (
              ldV w1 ((⟨b2, 0, none⟩ : Addr).add 2) fun x42 =>
              clF Try.prog (x42) [] w1 fun e44 w11 => ∃ x43 : Bool, e44 = Ending.returned (.bool x43) ∧
              cl Try.prog 33 [.pointer a1] w11 fun e47 w12 => ∃ x46 : Bool, e47 = Ending.returned (.bool x46) ∧
              R (.bool (x43 == x46)) w12) (
              k23 (()) w1)))) fun s24 w6 => match s24 with
      | (_) =>
      R (.bool true) w6))
def An20 : An := .seq (.leaf) (.seq (.seq (.leaf) (.cond (.seq (.leaf) (.leaf)) (.leaf))) (.seq (.seq (.leaf) (.cond (.seq (.join [(2, .one (.int .i64))] (.seq (.leaf) (.cond (.leaf) (.leaf)))) (.seq (.seq (.leaf) (.blk (.loop [(7, .one (.int .i64))] (.seq (.seq (.leaf) (.cond (.leaf) (.leaf))) (.seq (.blk (.seq (.leaf) (.leaf))) (.leaf)))))) (.seq (.leaf) (.leaf)))) (.leaf))) (.seq (.join [] (.seq (.leaf) (.blk (.seq (.leaf) (.cond (.seq (.leaf) (.leaf)) (.seq (.leaf) (.cond (.seq (.leaf) (.seq (.leaf) (.leaf))) (.seq (.leaf) (.cond (.seq (.leaf) (.seq (.leaf) (.leaf))) (.leaf)))))))))) (.seq (.leaf) (.leaf)))))
theorem V20_eq (a0_0 : Value) (a0_1 : Value) (a0_2 : Value) (a1 : Option Addr) (a2 : Int) (w : World) (R : Value → World → Prop) : evF Try.prog Try.f20 An20 [.agg #[a0_0, a0_1, a0_2], .pointer a1, .int .i64 a2] w R = V20 a0_0 a0_1 a0_2 a1 a2 w R := by kernel_rfl
theorem V20_calls (a0_0 : Value) (a0_1 : Value) (a0_2 : Value) (a1 : Option Addr) (a2 : Int) (w : World) (R : Value → World → Prop) (h : V20 a0_0 a0_1 a0_2 a1 a2 w R) : Calls Try.prog 20 #[.agg #[a0_0, a0_1, a0_2], .pointer a1, .int .i64 a2] w fun e w' => ∃ v, e = .returned v ∧ R v w' :=
  calls_of_ev (args := [.agg #[a0_0, a0_1, a0_2], .pointer a1, .int .i64 a2]) Try.func20 (Nat.le_of_ble_eq_true (by kernel_rfl)) (by rw [V20_eq]; exact h)
theorem ok20 : fnOk Try.prog 20 = true := by kernel_rfl

/-! depot/pace.Make$1 -/
def V28 (c0 : Addr) (w : World) (R : Value → World → Prop) : Prop :=
  ldI .i64 w c0 fun x2 =>
  st w (c0.add 0) (.int .i64 (IntKind.wrap .i64 (x2 + 1))) fun w1 =>
  R (.tuple #[]) w1
def An28 : An := .leaf
theorem V28_eq (c0 : Addr) (w : World) (R : Value → World → Prop) : evF Try.prog Try.f28 An28 [.pointer (some c0)] w R = V28 c0 w R := by kernel_rfl
theorem V28_calls (c0 : Addr) (w : World) (R : Value → World → Prop) (h : V28 c0 w R) : Calls Try.prog 28 #[.pointer (some c0)] w fun e w' => ∃ v, e = .returned v ∧ R v w' :=
  calls_of_ev (args := [.pointer (some c0)]) Try.func28 (Nat.le_of_ble_eq_true (by kernel_rfl)) (by rw [V28_eq]; exact h)
theorem ok28 : fnOk Try.prog 28 = true := by kernel_rfl

/-! depot/pace.Make$2 -/
def V29 (c0 : Addr) (c1 : Addr) (c2 : Addr) (c3 : Addr) (w : World) (R : Value → World → Prop) : Prop :=
  ldI .i64 (World.drew w) c0 fun x2 =>
  ldI .i64 (World.drew w) c1 fun x3 =>
  ldI .i64 (World.drew w) (c2.add 0) fun x4 =>
  ldI .i64 (World.drew w) c3 fun x5 =>
  cl Try.prog 15 [.int .i64 x5] (World.drew w) fun e7 w1 => ∃ x6 : Int, e7 = Ending.returned (.int .i64 x6) ∧
  (
    ldI .i64 w1 (c2.add 0) fun x8 =>
    ((.int .i64 x8 : Value) = .int .i64 x4)) ∧
  (
    ldI .i64 w1 c1 fun x9 =>
    ((.int .i64 x9 : Value) = .int .i64 x3)) ∧
  (
    ldI .i64 w1 c0 fun x10 =>
    ((.int .i64 x10 : Value) = .int .i64 x2)) ∧
  pif (decide ((IntKind.wrap .i64 (x2 - x3)) < (IntKind.wrap .i64 (x4 * x6)))) (
    R (.bool false) w1) (
    ldI .i64 w1 c0 fun x13 =>
    st w1 (c1.add 0) (.int .i64 x13) fun w2 =>
    ldI .i64 w2 c3 fun x15 =>
    st w2 (c3.add 0) (.int .i64 (IntKind.wrap .i64 (x15 + 1))) fun w3 =>
    R (.bool true) w3)
def An29 : An := .seq (.leaf) (.seq (.seq (.draw [0, 0, 3, 0, 8, 0, 32, 120, 255]) (.cond (.seq (.leaf) (.leaf)) (.leaf))) (.seq (.leaf) (.seq (.leaf) (.seq (.leaf) (.leaf)))))
theorem V29_eq (c0 : Addr) (c1 : Addr) (c2 : Addr) (c3 : Addr) (w : World) (R : Value → World → Prop) : evF Try.prog Try.f29 An29 [.pointer (some c0), .pointer (some c1), .pointer (some c2), .pointer (some c3)] w R = V29 c0 c1 c2 c3 w R := by kernel_rfl
theorem V29_calls (c0 : Addr) (c1 : Addr) (c2 : Addr) (c3 : Addr) (w : World) (R : Value → World → Prop) (h : V29 c0 c1 c2 c3 w R) : Calls Try.prog 29 #[.pointer (some c0), .pointer (some c1), .pointer (some c2), .pointer (some c3)] w fun e w' => ∃ v, e = .returned v ∧ R v w' :=
  calls_of_ev (args := [.pointer (some c0), .pointer (some c1), .pointer (some c2), .pointer (some c3)]) Try.func29 (Nat.le_of_ble_eq_true (by kernel_rfl)) (by rw [V29_eq]; exact h)
theorem ok29 : fnOk Try.prog 29 = true := by kernel_rfl

/-! depot/pace.Make$3 -/
def V30 (c0 : Addr) (c1 : Addr) (c2 : Addr) (c3 : Addr) (w : World) (R : Value → World → Prop) : Prop :=
  ldI .i64 w c0 fun x3 =>
  ldI .i64 w c1 fun x4 =>
  ldI .i64 w (c2.add 1) fun x5 =>
  ldI .i64 w c3 fun x6 =>
  ldI .i64 w (c2.add 2) fun x7 =>
  pif (decide ((IntKind.wrap .i64 (x3 - x4)) < (IntKind.wrap .i64 (x5 + (IntKind.wrap .i64 (x6 * x7)))))) (
    R (.bool false) w) (
    ldI .i64 w c0 fun x10 =>
    st w (c1.add 0) (.int .i64 x10) fun w1 =>
    ldI .i64 w1 c3 fun x12 =>
    st w1 (c3.add 0) (.int .i64 (IntKind.wrap .i64 (x12 + 1))) fun w2 =>
    R (.bool true) w2)
def An30 : An := .seq (.leaf) (.seq (.seq (.leaf) (.cond (.seq (.leaf) (.leaf)) (.leaf))) (.seq (.leaf) (.seq (.leaf) (.seq (.leaf) (.leaf)))))
theorem V30_eq (c0 : Addr) (c1 : Addr) (c2 : Addr) (c3 : Addr) (w : World) (R : Value → World → Prop) : evF Try.prog Try.f30 An30 [.pointer (some c0), .pointer (some c1), .pointer (some c2), .pointer (some c3)] w R = V30 c0 c1 c2 c3 w R := by kernel_rfl
theorem V30_calls (c0 : Addr) (c1 : Addr) (c2 : Addr) (c3 : Addr) (w : World) (R : Value → World → Prop) (h : V30 c0 c1 c2 c3 w R) : Calls Try.prog 30 #[.pointer (some c0), .pointer (some c1), .pointer (some c2), .pointer (some c3)] w fun e w' => ∃ v, e = .returned v ∧ R v w' :=
  calls_of_ev (args := [.pointer (some c0), .pointer (some c1), .pointer (some c2), .pointer (some c3)]) Try.func30 (Nat.le_of_ble_eq_true (by kernel_rfl)) (by rw [V30_eq]; exact h)
theorem ok30 : fnOk Try.prog 30 = true := by kernel_rfl

/-! (*depot/depotref13.Pace).Conflict -/
def V31 (a0 : Option Addr) (w : World) (R : Value → World → Prop) : Prop :=
  nn a0 fun p2 =>
  ldI .i64 w (p2.add 6) fun x3 =>
  nn a0 fun p4 =>
  st w ((p4.add 6).add 0) (.int .i64 (IntKind.wrap .i64 (x3 + 1))) fun w1 =>
  nn a0 fun p6 =>
  ldI .i64 w1 (p6.add 8) fun x7 =>
  nn a0 fun p8 =>
  st w1 ((p8.add 8).add 0) (.int .i64 (IntKind.wrap .i64 (x7 + 1))) fun w2 =>
  R (.tuple #[]) w2
def An31 : An := .seq (.leaf) (.leaf)
theorem V31_eq (a0 : Option Addr) (w : World) (R : Value → World → Prop) : evF Try.prog Try.f31 An31 [.pointer a0] w R = V31 a0 w R := by kernel_rfl
theorem V31_calls (a0 : Option Addr) (w : World) (R : Value → World → Prop) (h : V31 a0 w R) : Calls Try.prog 31 #[.pointer a0] w fun e w' => ∃ v, e = .returned v ∧ R v w' :=
  calls_of_ev (args := [.pointer a0]) Try.func31 (Nat.le_of_ble_eq_true (by kernel_rfl)) (by rw [V31_eq]; exact h)
theorem ok31 : fnOk Try.prog 31 = true := by kernel_rfl

/-! (*depot/depotref13.Pace).Restart -/
def V32 (a0 : Option Addr) (w : World) (R : Value → World → Prop) : Prop :=
  nn a0 fun p2 =>
  ldI .i64 (World.drew w) (p2.add 6) fun x3 =>
  nn a0 fun p4 =>
  ldI .i64 (World.drew w) ((p4.add 0).add 0) fun x5 =>
  nn a0 fun p6 =>
  ldI .i64 (World.drew w) (p6.add 7) fun x7 =>
  cl Try.prog 16 [.int .i64 (IntKind.wrap .i64 (x7 + 1))] (World.drew w) fun e9 w1 => ∃ x8 : Int, e9 = Ending.returned (.int .i64 x8) ∧
  (
    ldI .i64 w1 ((p4.add 0).add 0) fun x10 =>
    ((.int .i64 x10 : Value) = .int .i64 x5)) ∧
  (
    ldI .i64 w1 (p2.add 6) fun x11 =>
    ((.int .i64 x11 : Value) = .int .i64 x3)) ∧
  pif (decide (x3 < (IntKind.wrap .i64 (x5 * x8)))) (
    R (.bool false) w1) (
    nn a0 fun p14 =>
    st w1 ((p14.add 6).add 0) (.int .i64 0) fun w2 =>
    nn a0 fun p16 =>
    ldI .i64 w2 (p16.add 7) fun x17 =>
    nn a0 fun p18 =>
    st w2 ((p18.add 7).add 0) (.int .i64 (IntKind.wrap .i64 (x17 + 1))) fun w3 =>
    R (.bool true) w3)
def An32 : An := .seq (.leaf) (.seq (.seq (.draw [0, 1, 3, 7, 0, 16, 48, 112, 240, 0, 512, 1536, 3584, 7680, 15872, 32752, 65535]) (.cond (.seq (.leaf) (.leaf)) (.leaf))) (.seq (.leaf) (.seq (.leaf) (.seq (.leaf) (.leaf)))))
theorem V32_eq (a0 : Option Addr) (w : World) (R : Value → World → Prop) : evF Try.prog Try.f32 An32 [.pointer a0] w R = V32 a0 w R := by kernel_rfl
theorem V32_calls (a0 : Option Addr) (w : World) (R : Value → World → Prop) (h : V32 a0 w R) : Calls Try.prog 32 #[.pointer a0] w fun e w' => ∃ v, e = .returned v ∧ R v w' :=
  calls_of_ev (args := [.pointer a0]) Try.func32 (Nat.le_of_ble_eq_true (by kernel_rfl)) (by rw [V32_eq]; exact h)
theorem ok32 : fnOk Try.prog 32 = true := by kernel_rfl

/-! (*depot/depotref13.Pace).Clear -/
def V33 (a0 : Option Addr) (w : World) (R : Value → World → Prop) : Prop :=
  nn a0 fun p2 =>
  ldI .i64 (World.drew w) (p2.add 8) fun x3 =>
  nn a0 fun p4 =>
  ldI .i64 (World.drew w) ((p4.add 0).add 1) fun x5 =>
  nn a0 fun p6 =>
  ldI .i64 (World.drew w) ((p6.add 0).add 2) fun x7 =>
  nn a0 fun p8 =>
  ldI .i64 (World.drew w) (p8.add 9) fun x9 =>
  pif (decide (x3 < (IntKind.wrap .i64 (x5 + (IntKind.wrap .i64 (x7 * x9)))))) (
    R (.bool false) (World.drew w)) (
    nn a0 fun p12 =>
    st (World.drew w) ((p12.add 8).add 0) (.int .i64 0) fun w1 =>
    nn a0 fun p14 =>
    ldI .i64 w1 (p14.add 9) fun x15 =>
    nn a0 fun p16 =>
    st w1 ((p16.add 9).add 0) (.int .i64 (IntKind.wrap .i64 (x15 + 1))) fun w2 =>
    R (.bool true) w2)
def An33 : An := .seq (.leaf) (.seq (.seq (.draw [0, 1, 3, 7, 0, 16, 48, 112, 240, 0, 512, 1536, 3584, 7680, 0, 16384, 49152, 114688, 261632, 524272, 1048575]) (.cond (.seq (.leaf) (.leaf)) (.leaf))) (.seq (.leaf) (.seq (.leaf) (.seq (.leaf) (.leaf)))))
theorem V33_eq (a0 : Option Addr) (w : World) (R : Value → World → Prop) : evF Try.prog Try.f33 An33 [.pointer a0] w R = V33 a0 w R := by kernel_rfl
theorem V33_calls (a0 : Option Addr) (w : World) (R : Value → World → Prop) (h : V33 a0 w R) : Calls Try.prog 33 #[.pointer a0] w fun e w' => ∃ v, e = .returned v ∧ R v w' :=
  calls_of_ev (args := [.pointer a0]) Try.func33 (Nat.le_of_ble_eq_true (by kernel_rfl)) (by rw [V33_eq]; exact h)
theorem ok33 : fnOk Try.prog 33 = true := by kernel_rfl

end Go.Proofs.Ytkpoagdhekimpaa.T
