/- The conditions under which the functions printed here return, as propositions over typed values; each is the machine's own, by the generator's theorem. -/
import Derived.Test.YtkpoagdhekimpaaProg
import Derived.Test.YtkpoagdhekimpaaVcX
set_option linter.unusedVariables false
set_option maxRecDepth 100000
namespace Go.Proofs.Ytkpoagdhekimpaa.T
open Go Go.Proofs.Ytkpoagdhekimpaa.Vc
/-! depot/depotlaw13.PaceKeeps -/
def V12 (a0_0 : Int) (a0_1 : Int) (a0_2 : Int) (a0_3 : Nat) (a0_4 : Int) (a0_5 : Int) (a1_0 : Int) (a1_1 : Int) (a1_2 : Int) (a1_3 : Nat) (a1_4 : Int) (a1_5 : Int) (a2 : Int) (w : World) (R : Value → World → Prop) : Prop :=
  alc w [.int .i64 a0_0, .int .i64 a0_1, .int .i64 a0_2, .float .f64 a0_3, .int .i64 a0_4, .int .i64 a0_5] 24 fun b2 w1 =>
  alc w1 [.int .i64 a1_0, .int .i64 a1_1, .int .i64 a1_2, .float .f64 a1_3, .int .i64 a1_4, .int .i64 a1_5] 24 fun b3 w2 =>
  jn (σ := Int × Unit) (fun k5 =>
    pif (cond (decide (a2 < 0)) true (decide (a2 > 3000))) (
      k5 (300, ()) w2) (
      k5 (a2, ()) w2)) fun s6 w3 => match s6 with
  | (v4, _) =>
  ldI .i64 w3 ((⟨b2, 0, none⟩ : Addr).add 0) fun x10 =>
  ldI .i64 w3 ((⟨b2, 0, none⟩ : Addr).add 1) fun x11 =>
  ldI .i64 w3 ((⟨b2, 0, none⟩ : Addr).add 2) fun x12 =>
  ldF .f64 w3 ((⟨b2, 0, none⟩ : Addr).add 3) fun x13 =>
  ldI .i64 w3 ((⟨b2, 0, none⟩ : Addr).add 4) fun x14 =>
  ldI .i64 w3 ((⟨b2, 0, none⟩ : Addr).add 5) fun x15 =>
  cl Try.prog 21 [.agg #[.int .i64 x10, .int .i64 x11, .int .i64 x12, .float .f64 x13, .int .i64 x14, .int .i64 x15], .int .i64 v4] w3 fun e18 w4 => ∃ (x16 : Option Addr) (x16n x16c : Nat), ∃ x17 : Int, e18 = Ending.returned (.tuple #[.slice x16 x16n x16c, .int .i64 x17]) ∧
  ldI .i64 w4 ((⟨b2, 0, none⟩ : Addr).add 0) fun x20 =>
  ldI .i64 w4 ((⟨b2, 0, none⟩ : Addr).add 1) fun x21 =>
  ldI .i64 w4 ((⟨b2, 0, none⟩ : Addr).add 2) fun x22 =>
  ldF .f64 w4 ((⟨b2, 0, none⟩ : Addr).add 3) fun x23 =>
  ldI .i64 w4 ((⟨b2, 0, none⟩ : Addr).add 4) fun x24 =>
  ldI .i64 w4 ((⟨b2, 0, none⟩ : Addr).add 5) fun x25 =>
  cl Try.prog 21 [.agg #[.int .i64 x20, .int .i64 x21, .int .i64 x22, .float .f64 x23, .int .i64 x24, .int .i64 x25], .int .i64 v4] w4 fun e28 w5 => ∃ (x26 : Option Addr) (x26n x26c : Nat), ∃ x27 : Int, e28 = Ending.returned (.tuple #[.slice x26 x26n x26c, .int .i64 x27]) ∧
  alc w5 [] 50 fun b30 w6 =>
  ∃ (x31 : Option Addr) (x31n x31c : Nat), ∃ w7 : World, (Builtin.append_ #[43, 43] 43 #[.slice (some (⟨b30, 0, none⟩ : Addr)) 0 0, .slice x16 x16n x16c]).run Try.prog w6 = .ok (.slice x31 x31n x31c) w7 ∧
  ldI .i64 w7 ((⟨b3, 0, none⟩ : Addr).add 0) fun x33 =>
  ldI .i64 w7 ((⟨b3, 0, none⟩ : Addr).add 1) fun x34 =>
  ldI .i64 w7 ((⟨b3, 0, none⟩ : Addr).add 2) fun x35 =>
  ldF .f64 w7 ((⟨b3, 0, none⟩ : Addr).add 3) fun x36 =>
  ldI .i64 w7 ((⟨b3, 0, none⟩ : Addr).add 4) fun x37 =>
  ldI .i64 w7 ((⟨b3, 0, none⟩ : Addr).add 5) fun x38 =>
  cl Try.prog 21 [.agg #[.int .i64 x33, .int .i64 x34, .int .i64 x35, .float .f64 x36, .int .i64 x37, .int .i64 x38], .int .i64 v4] w7 fun e41 w8 => ∃ (x39 : Option Addr) (x39n x39c : Nat), ∃ x40 : Int, e41 = Ending.returned (.tuple #[.slice x39 x39n x39c, .int .i64 x40]) ∧
  alc w8 [] 50 fun b43 w9 =>
  ∃ (x44 : Option Addr) (x44n x44c : Nat), ∃ w10 : World, (Builtin.append_ #[43, 43] 43 #[.slice (some (⟨b43, 0, none⟩ : Addr)) 0 0, .slice x39 x39n x39c]).run Try.prog w9 = .ok (.slice x44 x44n x44c) w10 ∧
  ldI .i64 w10 ((⟨b2, 0, none⟩ : Addr).add 0) fun x46 =>
  ldI .i64 w10 ((⟨b2, 0, none⟩ : Addr).add 1) fun x47 =>
  ldI .i64 w10 ((⟨b2, 0, none⟩ : Addr).add 2) fun x48 =>
  ldF .f64 w10 ((⟨b2, 0, none⟩ : Addr).add 3) fun x49 =>
  ldI .i64 w10 ((⟨b2, 0, none⟩ : Addr).add 4) fun x50 =>
  ldI .i64 w10 ((⟨b2, 0, none⟩ : Addr).add 5) fun x51 =>
  cl Try.prog 18 [.agg #[.int .i64 x46, .int .i64 x47, .int .i64 x48, .float .f64 x49, .int .i64 x50, .int .i64 x51]] w10 fun e56 w11 => ∃ x52 : Value, ∃ x53 : Value, ∃ x54 : Value, ∃ x55 : Int, e56 = Ending.returned (.tuple #[.agg #[x52, x53, x54], .int .i64 x55]) ∧
  alc w11 [.nilFunc, .nilFunc, .nilFunc] 34 fun b57 w12 =>
  st w12 ((⟨b57, 0, none⟩ : Addr).add 0) (x52) fun w13 =>
  st w13 ((⟨b57, 0, none⟩ : Addr).add 1) (x53) fun w14 =>
  st w14 ((⟨b57, 0, none⟩ : Addr).add 2) (x54) fun w15 =>
  pif (x17 != x55) (
    R (.bool false) w15) (
    gd (α := Value) (x55 == 0) (fun k61 =>
      ldV w15 ((⟨b57, 0, none⟩ : Addr).add 0) fun x62 =>
      k61 x62 w15) undef w15 fun x63 w16 =>
    gd (α := Bool) (x55 == 0) (fun k64 =>
      isFn (x63) = true ∧
      k64 (isNilF (x63)) w16) false w16 fun x65 w17 =>
    gd (α := Value) ((x55 == 0) && (!x65)) (fun k66 =>
      ldV w17 ((⟨b57, 0, none⟩ : Addr).add 1) fun x67 =>
      k66 x67 w17) undef w17 fun x68 w18 =>
    gd (α := Bool) ((x55 == 0) && (!x65)) (fun k69 =>
      isFn (x68) = true ∧
      k69 (isNilF (x68)) w18) false w18 fun x70 w19 =>
    gd (α := Value) ((x55 == 0) && (!(cond x65 true x70))) (fun k71 =>
      ldV w19 ((⟨b57, 0, none⟩ : Addr).add 2) fun x72 =>
      k71 x72 w19) undef w19 fun x73 w20 =>
    gd (α := Bool) ((x55 == 0) && (!(cond x65 true x70))) (fun k74 =>
      isFn (x73) = true ∧
      k74 (isNilF (x73)) w20) false w20 fun x75 w21 =>
    pif (cond (x55 == 0) (cond (cond x65 true x70) true x75) false) (
      R (.bool false) w21) (
      jn (σ := Unit) (fun k77 =>
        pif (x55 == 0) (
          lp (σ := Int × Unit) (fun s83 w23 k82 => match s83 with
            | (v81, _) =>
            pif (decide (v81 < v4)) (
              ldV w23 ((⟨b57, 0, none⟩ : Addr).add 0) fun x86 =>
              clF Try.prog (x86) [] w23 fun e87 w24 => e87 = Ending.returned (.tuple #[]) ∧
              ldV w24 ((⟨b57, 0, none⟩ : Addr).add 1) fun x89 =>
              clF Try.prog (x89) [] w24 fun e91 w25 => ∃ x90 : Bool, e91 = Ending.returned (.bool x90) ∧
              ldV w25 ((⟨b57, 0, none⟩ : Addr).add 2) fun x93 =>
              clF Try.prog (x93) [] w25 fun e95 w26 => ∃ x94 : Bool, e95 = Ending.returned (.bool x94) ∧
              k82 ((IntKind.wrap .i64 (v81 + 1)), ()) w26) (
              k77 (()) w23)) (0, ()) w21) (
          k77 (()) w21)) fun s78 w22 => match s78 with
      | (_) =>
      ldI .i64 w22 ((⟨b2, 0, none⟩ : Addr).add 0) fun x98 =>
      ldI .i64 w22 ((⟨b2, 0, none⟩ : Addr).add 1) fun x99 =>
      ldI .i64 w22 ((⟨b2, 0, none⟩ : Addr).add 2) fun x100 =>
      ldF .f64 w22 ((⟨b2, 0, none⟩ : Addr).add 3) fun x101 =>
      ldI .i64 w22 ((⟨b2, 0, none⟩ : Addr).add 4) fun x102 =>
      ldI .i64 w22 ((⟨b2, 0, none⟩ : Addr).add 5) fun x103 =>
      cl Try.prog 21 [.agg #[.int .i64 x98, .int .i64 x99, .int .i64 x100, .float .f64 x101, .int .i64 x102, .int .i64 x103], .int .i64 v4] w22 fun e106 w27 => ∃ (x104 : Option Addr) (x104n x104c : Nat), ∃ x105 : Int, e106 = Ending.returned (.tuple #[.slice x104 x104n x104c, .int .i64 x105]) ∧
      cl Try.prog 23 [.slice x16 x16n x16c, .slice x31 x31n x31c] w27 fun e109 w28 => ∃ x108 : Bool, e109 = Ending.returned (.bool x108) ∧
      gd (α := Bool) (!(!x108)) (fun k110 =>
        cl Try.prog 23 [.slice x26 x26n x26c, .slice x31 x31n x31c] w28 fun e112 w29 => ∃ x111 : Bool, e112 = Ending.returned (.bool x111) ∧
        k110 x111 w29) false w28 fun x113 w30 =>
      gd (α := Bool) (!(cond (!x108) true (!x113))) (fun k114 =>
        cl Try.prog 23 [.slice x104 x104n x104c, .slice x31 x31n x31c] w30 fun e116 w31 => ∃ x115 : Bool, e116 = Ending.returned (.bool x115) ∧
        k114 x115 w31) false w30 fun x117 w32 =>
      gd (α := Bool) (!(cond (cond (!x108) true (!x113)) true (!x117))) (fun k118 =>
        cl Try.prog 23 [.slice x39 x39n x39c, .slice x44 x44n x44c] w32 fun e120 w33 => ∃ x119 : Bool, e120 = Ending.returned (.bool x119) ∧
        k118 x119 w33) false w32 fun x121 w34 =>
      pif (cond (cond (cond (!x108) true (!x113)) true (!x117)) true (!x121)) (
        R (.bool false) w34) (
        alc w34 [.slice x16 x16n x16c, .slice x26 x26n x26c, .slice x104 x104n x104c, .slice x39 x39n x39c] 43 fun b124 w35 =>
        cl Try.prog 25 [.slice (some (⟨b124, 0, none⟩ : Addr)) 4 4] w35 fun e126 w36 => ∃ x125 : Bool, e126 = Ending.returned (.bool x125) ∧
        pif (!x125) (
          R (.bool false) w36) (
          ldI .i64 w36 ((⟨b2, 0, none⟩ : Addr).add 0) fun x129 =>
          ldI .i64 w36 ((⟨b2, 0, none⟩ : Addr).add 1) fun x130 =>
          ldI .i64 w36 ((⟨b2, 0, none⟩ : Addr).add 2) fun x131 =>
          ldF .f64 w36 ((⟨b2, 0, none⟩ : Addr).add 3) fun x132 =>
          ldI .i64 w36 ((⟨b2, 0, none⟩ : Addr).add 4) fun x133 =>
          ldI .i64 w36 ((⟨b2, 0, none⟩ : Addr).add 5) fun x134 =>
          cl Try.prog 21 [.agg #[.int .i64 x129, .int .i64 x130, .int .i64 x131, .float .f64 x132, .int .i64 x133, .int .i64 x134], .int .i64 v4] w36 fun e137 w37 => ∃ (x135 : Option Addr) (x135n x135c : Nat), ∃ x136 : Int, e137 = Ending.returned (.tuple #[.slice x135 x135n x135c, .int .i64 x136]) ∧
          gd (α := Bool) (x136 == x17) (fun k139 =>
            cl Try.prog 23 [.slice x135 x135n x135c, .slice x31 x31n x31c] w37 fun e141 w38 => ∃ x140 : Bool, e141 = Ending.returned (.bool x140) ∧
            k139 x140 w38) false w37 fun x142 w39 =>
          gd (α := (Int × Int × Int × Nat × Int × Int × Unit)) (cond (x136 == x17) x142 false) (fun k143 =>
            ldI .i64 w39 ((⟨b2, 0, none⟩ : Addr).add 0) fun x144 =>
            ldI .i64 w39 ((⟨b2, 0, none⟩ : Addr).add 1) fun x145 =>
            ldI .i64 w39 ((⟨b2, 0, none⟩ : Addr).add 2) fun x146 =>
            ldF .f64 w39 ((⟨b2, 0, none⟩ : Addr).add 3) fun x147 =>
            ldI .i64 w39 ((⟨b2, 0, none⟩ : Addr).add 4) fun x148 =>
            ldI .i64 w39 ((⟨b2, 0, none⟩ : Addr).add 5) fun x149 =>
            k143 (x144, x145, x146, x147, x148, x149, ()) w39) (0, 0, 0, 0, 0, 0, ()) w39 fun x150 w40 =>
          gd (α := Bool) (cond (x136 == x17) x142 false) (fun k151 =>
            cl Try.prog 13 [.agg #[.int .i64 x150.1, .int .i64 x150.2.1, .int .i64 x150.2.2.1, .float .f64 x150.2.2.2.1, .int .i64 x150.2.2.2.2.1, .int .i64 x150.2.2.2.2.2.1]] w40 fun e153 w41 => ∃ x152 : Bool, e153 = Ending.returned (.bool x152) ∧
            k151 x152 w41) false w40 fun x154 w42 =>
          gd (α := Int) (cond (cond (x136 == x17) x142 false) ((x17 == 0) == x154) false) (fun k155 =>
            cl Try.prog 15 [.int .i64 7] w42 fun e157 w43 => ∃ x156 : Int, e157 = Ending.returned (.int .i64 x156) ∧
            k155 x156 w43) 0 w42 fun x158 w44 =>
          R (.bool (cond (cond (cond (x136 == x17) x142 false) ((x17 == 0) == x154) false) (x158 == 4) false)) w44))))
def An12 : An := .seq (.leaf) (.seq (.join [(2, .one (.int .i64))] (.seq (.leaf) (.cond (.leaf) (.leaf)))) (.seq (.leaf) (.seq (.leaf) (.seq (.leaf) (.seq (.leaf) (.seq (.leaf) (.seq (.leaf) (.seq (.seq (.leaf) (.cond (.seq (.leaf) (.leaf)) (.leaf))) (.seq (.seq (.leaf) (.cond (.seq (.leaf) (.leaf)) (.leaf))) (.seq (.join [] (.seq (.leaf) (.cond (.seq (.leaf) (.blk (.loop [(17, .one (.int .i64))] (.seq (.seq (.leaf) (.cond (.leaf) (.leaf))) (.seq (.blk (.seq (.leaf) (.seq (.leaf) (.leaf)))) (.leaf)))))) (.leaf)))) (.seq (.leaf) (.seq (.seq (.leaf) (.cond (.seq (.leaf) (.leaf)) (.leaf))) (.seq (.seq (.leaf) (.cond (.seq (.leaf) (.leaf)) (.leaf))) (.seq (.leaf) (.seq (.leaf) (.leaf))))))))))))))))
theorem V12_eq (a0_0 : Int) (a0_1 : Int) (a0_2 : Int) (a0_3 : Nat) (a0_4 : Int) (a0_5 : Int) (a1_0 : Int) (a1_1 : Int) (a1_2 : Int) (a1_3 : Nat) (a1_4 : Int) (a1_5 : Int) (a2 : Int) (w : World) (R : Value → World → Prop) : evF Try.prog Try.f12 An12 [.agg #[.int .i64 a0_0, .int .i64 a0_1, .int .i64 a0_2, .float .f64 a0_3, .int .i64 a0_4, .int .i64 a0_5], .agg #[.int .i64 a1_0, .int .i64 a1_1, .int .i64 a1_2, .float .f64 a1_3, .int .i64 a1_4, .int .i64 a1_5], .int .i64 a2] w R = V12 a0_0 a0_1 a0_2 a0_3 a0_4 a0_5 a1_0 a1_1 a1_2 a1_3 a1_4 a1_5 a2 w R := by kernel_rfl
theorem V12_calls (a0_0 : Int) (a0_1 : Int) (a0_2 : Int) (a0_3 : Nat) (a0_4 : Int) (a0_5 : Int) (a1_0 : Int) (a1_1 : Int) (a1_2 : Int) (a1_3 : Nat) (a1_4 : Int) (a1_5 : Int) (a2 : Int) (w : World) (R : Value → World → Prop) (h : V12 a0_0 a0_1 a0_2 a0_3 a0_4 a0_5 a1_0 a1_1 a1_2 a1_3 a1_4 a1_5 a2 w R) : Calls Try.prog 12 #[.agg #[.int .i64 a0_0, .int .i64 a0_1, .int .i64 a0_2, .float .f64 a0_3, .int .i64 a0_4, .int .i64 a0_5], .agg #[.int .i64 a1_0, .int .i64 a1_1, .int .i64 a1_2, .float .f64 a1_3, .int .i64 a1_4, .int .i64 a1_5], .int .i64 a2] w fun e w' => ∃ v, e = .returned v ∧ R v w' :=
  calls_of_ev (args := [.agg #[.int .i64 a0_0, .int .i64 a0_1, .int .i64 a0_2, .float .f64 a0_3, .int .i64 a0_4, .int .i64 a0_5], .agg #[.int .i64 a1_0, .int .i64 a1_1, .int .i64 a1_2, .float .f64 a1_3, .int .i64 a1_4, .int .i64 a1_5], .int .i64 a2]) Try.func12 (Nat.le_of_ble_eq_true (by kernel_rfl)) (by rw [V12_eq]; exact h)
theorem ok12 : fnOk Try.prog 12 = true := by kernel_rfl

/-! depot/depotkit.ApartBeats -/
def V25 (a0 : Option Addr) (a0n : Nat) (a0c : Nat) (w : World) (R : Value → World → Prop) : Prop :=
  lp (σ := Int × Unit) (fun s5 w1 k4 => match s5 with
    | (v3, _) =>
    pif (decide (v3 < (a0n : Int))) (
      lp (σ := Int × Unit) (fun s10 w2 k9 => match s10 with
        | (v8, _) =>
        ixA a0 a0n v3 1 fun p12 =>
        ldC w2 p12 fun x13 x13n x13c =>
        pif (decide (v8 < (x13n : Int))) (
          ixA a0 a0n v3 1 fun p14 =>
          ldC (World.drew w2) p14 fun x15 x15n x15c =>
          cl Try.prog 34 [.int .i64 v3, .int .i64 v8] (World.drew w2) fun e17 w3 => ∃ x16 : Int, e17 = Ending.returned (.int .i64 x16) ∧
          (
            ldC w3 p14 fun x18 x18n x18c =>
            ((.slice x18 x18n x18c : Value) = .slice x15 x15n x15c)) ∧
          ixA x15 x15n v8 2 fun p19 =>
          st w3 (p19.add 0) (.int .i64 x16) fun w4 =>
          st w4 (p19.add 1) (.bool ((Int.tmod (IntKind.wrap .i64 (v3 + v8)) 2) == 0)) fun w5 =>
          k9 ((IntKind.wrap .i64 (v8 + 1)), ()) w5) (
          k4 ((IntKind.wrap .i64 (v3 + 1)), ()) w2)) (0, ()) w1) (
      lp (σ := (Option Addr × Nat × Nat) × Int × Unit) (fun s27 w6 k26 => match s27 with
        | ((v24, v24n, v24c), v25, _) =>
        pif (decide (v25 < (a0n : Int))) (
          ixA a0 a0n v25 1 fun p30 =>
          ldC w6 p30 fun x31 x31n x31c =>
          lp (σ := (Option Addr × Nat × Nat) × Int × Unit) (fun s36 w7 k35 => match s36 with
            | ((v33, v33n, v33c), v34, _) =>
            pif (decide (v34 < 64)) (
              ixA a0 a0n v25 1 fun p38 =>
              ldC (World.drew w7) p38 fun x39 x39n x39c =>
              ixA a0 a0n v25 1 fun p40 =>
              ldC (World.drew w7) p40 fun x41 x41n x41c =>
              cl Try.prog 34 [.int .i64 v25, .int .i64 (IntKind.wrap .i64 ((x39n : Int) + v34))] (World.drew w7) fun e43 w8 => ∃ x42 : Int, e43 = Ending.returned (.int .i64 x42) ∧
              (
                ldC w8 p40 fun x44 x44n x44c =>
                ((.slice x44 x44n x44c : Value) = .slice x41 x41n x41c)) ∧
              alc w8 [.int .i64 x42, .bool ((Int.tmod (IntKind.wrap .i64 ((IntKind.wrap .i64 (v25 + (x41n : Int))) + v34)) 2) == 0)] 50 fun b45 w9 =>
              ∃ (x46 : Option Addr) (x46n x46c : Nat), ∃ w10 : World, (Builtin.append_ #[43, 43] 43 #[.slice v33 v33n v33c, .slice (some (⟨b45, 0, none⟩ : Addr)) 1 1]).run Try.prog w9 = .ok (.slice x46 x46n x46c) w10 ∧
              k35 ((x46, x46n, x46c), (IntKind.wrap .i64 (v34 + 1)), ()) w10) (
              alc w7 [.slice v33 v33n v33c] 43 fun b49 w11 =>
              ∃ (x50 : Option Addr) (x50n x50c : Nat), ∃ w12 : World, (Builtin.append_ #[53, 53] 53 #[.slice v24 v24n v24c, .slice (some (⟨b49, 0, none⟩ : Addr)) 1 1]).run Try.prog w11 = .ok (.slice x50 x50n x50c) w12 ∧
              k26 ((x50, x50n, x50c), (IntKind.wrap .i64 (v25 + 1)), ()) w12)) ((x31, x31n, x31c), 0, ()) w6) (
          lp (σ := Int × Unit) (fun s55 w13 k54 => match s55 with
            | (v53, _) =>
            pif (decide (v53 < (a0n : Int))) (
              lp (σ := Int × Unit) (fun s60 w14 k59 => match s60 with
                | (v58, _) =>
                ixA v24 v24n v53 1 fun p62 =>
                ldC w14 p62 fun x63 x63n x63c =>
                pif (decide (v58 < (x63n : Int))) (
                  ixA v24 v24n v53 1 fun p64 =>
                  ldC (World.drew w14) p64 fun x65 x65n x65c =>
                  ixA x65 x65n v58 2 fun p66 =>
                  ldI .i64 (World.drew w14) (p66.add 0) fun x67 =>
                  ldB (World.drew w14) (p66.add 1) fun x68 =>
                  cl Try.prog 34 [.int .i64 v53, .int .i64 v58] (World.drew w14) fun e70 w15 => ∃ x69 : Int, e70 = Ending.returned (.int .i64 x69) ∧
                  (
                    ldI .i64 w15 (p66.add 0) fun x71 =>
                    ldB w15 (p66.add 1) fun x72 =>
                    ((.agg #[.int .i64 x71, .bool x72] : Value) = .agg #[.int .i64 x67, .bool x68])) ∧
                  (
                    ldC w15 p64 fun x73 x73n x73c =>
                    ((.slice x73 x73n x73c : Value) = .slice x65 x65n x65c)) ∧
                  eqV Try.prog .eql 50 (.agg #[.int .i64 x67, .bool x68]) (.agg #[.int .i64 x69, .bool ((Int.tmod (IntKind.wrap .i64 (v53 + v58)) 2) == 0)]) fun q74 =>
                  gd (α := Addr) (!(!q74)) (fun k75 =>
                    ixA a0 a0n v53 1 fun p76 =>
                    k75 p76 w15) ⟨0, 0, none⟩ w15 fun x77 _ =>
                  gd (α := (Option Addr × Nat × Nat)) (!(!q74)) (fun k78 =>
                    ldC w15 x77 fun x79 x79n x79c =>
                    k78 (x79, x79n, x79c) w15) (none, 0, 0) w15 fun x80 _ =>
                  gd (α := Addr) ((!(!q74)) && (decide (v58 < (x80.2.1 : Int)))) (fun k81 =>
                    ixA a0 a0n v53 1 fun p82 =>
                    k81 p82 w15) ⟨0, 0, none⟩ w15 fun x83 _ =>
                  gd (α := (Option Addr × Nat × Nat)) ((!(!q74)) && (decide (v58 < (x80.2.1 : Int)))) (fun k84 =>
                    ldC w15 x83 fun x85 x85n x85c =>
                    k84 (x85, x85n, x85c) w15) (none, 0, 0) w15 fun x86 _ =>
                  gd (α := Addr) ((!(!q74)) && (decide (v58 < (x80.2.1 : Int)))) (fun k87 =>
                    ixA x86.1 x86.2.1 v58 2 fun p88 =>
                    k87 p88 w15) ⟨0, 0, none⟩ w15 fun x89 _ =>
                  gd (α := (Int × Bool × Unit)) ((!(!q74)) && (decide (v58 < (x80.2.1 : Int)))) (fun k90 =>
                    ldI .i64 w15 (x89.add 0) fun x91 =>
                    ldB w15 (x89.add 1) fun x92 =>
                    k90 (x91, x92, ()) w15) (0, false, ()) w15 fun x93 _ =>
                  gd (α := Int) ((!(!q74)) && (decide (v58 < (x80.2.1 : Int)))) (fun k94 =>
                    cl Try.prog 34 [.int .i64 v53, .int .i64 v58] w15 fun e96 w16 => ∃ x95 : Int, e96 = Ending.returned (.int .i64 x95) ∧
                    k94 x95 w16) 0 w15 fun x97 w17 =>
                  (((!(!q74)) && (decide (v58 < (x80.2.1 : Int)))) = true →
                    ldI .i64 w17 (x89.add 0) fun x98 =>
                    ldB w17 (x89.add 1) fun x99 =>
                    ((.agg #[.int .i64 x98, .bool x99] : Value) = .agg #[.int .i64 x93.1, .bool x93.2.1])) ∧
                  (((!(!q74)) && (decide (v58 < (x80.2.1 : Int)))) = true →
                    ldC w17 x83 fun x100 x100n x100c =>
                    ((.slice x100 x100n x100c : Value) = .slice x86.1 x86.2.1 x86.2.2)) ∧
                  gd (α := Bool) ((!(!q74)) && (decide (v58 < (x80.2.1 : Int)))) (fun k101 =>
                    eqV Try.prog .eql 50 (.agg #[.int .i64 x93.1, .bool x93.2.1]) (.agg #[.int .i64 x97, .bool ((Int.tmod (IntKind.wrap .i64 (v53 + v58)) 2) == 0)]) fun q102 =>
                    k101 q102 w17) false w17 fun x103 _ =>
                  pif (cond (!q74) true (cond (decide (v58 < (x80.2.1 : Int))) (!x103) false)) (
                    R (.bool false) w17) (
                    k59 ((IntKind.wrap .i64 (v58 + 1)), ()) w17)) (
                  k54 ((IntKind.wrap .i64 (v53 + 1)), ()) w14)) (0, ()) w13) (
              lp (σ := Int × Unit) (fun s110 w18 k109 => match s110 with
                | (v108, _) =>
                pif (decide (v108 < (a0n : Int))) (
                  lp (σ := (Option Addr × Nat × Nat) × Int × Unit) (fun s117 w19 k116 => match s117 with
                    | ((v114, v114n, v114c), v115, _) =>
                    pif (decide (v115 < 64)) (
                      cl Try.prog 34 [.int .i64 (IntKind.wrap .i64 (v108 + (a0n : Int))), .int .i64 v115] w19 fun e121 w20 => ∃ x120 : Int, e121 = Ending.returned (.int .i64 x120) ∧
                      alc w20 [.int .i64 x120, .bool ((Int.tmod (IntKind.wrap .i64 ((IntKind.wrap .i64 (v108 + (a0n : Int))) + v115)) 2) == 0)] 50 fun b122 w21 =>
                      ∃ (x123 : Option Addr) (x123n x123c : Nat), ∃ w22 : World, (Builtin.append_ #[43, 43] 43 #[.slice v114 v114n v114c, .slice (some (⟨b122, 0, none⟩ : Addr)) 1 1]).run Try.prog w21 = .ok (.slice x123 x123n x123c) w22 ∧
                      k116 ((x123, x123n, x123c), (IntKind.wrap .i64 (v115 + 1)), ()) w22) (
                      ixA a0 a0n v108 1 fun p126 =>
                      ldC w19 p126 fun x127 x127n x127c =>
                      ∃ (x128 : Option Addr) (x128n x128c : Nat), ∃ w23 : World, (Builtin.append_ #[43, 43] 43 #[.slice x127 x127n x127c, .slice v114 v114n v114c]).run Try.prog w19 = .ok (.slice x128 x128n x128c) w23 ∧
                      ixA v24 v24n v108 1 fun p129 =>
                      st w23 (p129.add 0) (.slice x128 x128n x128c) fun w24 =>
                      k109 ((IntKind.wrap .i64 (v108 + 1)), ()) w24)) ((none, 0, 0), 0, ()) w18) (
                  lp (σ := Int × Unit) (fun s134 w25 k133 => match s134 with
                    | (v132, _) =>
                    pif (decide (v132 < (a0n : Int))) (
                      lp (σ := Int × Unit) (fun s139 w26 k138 => match s139 with
                        | (v137, _) =>
                        ixA a0 a0n v132 1 fun p141 =>
                        ldC w26 p141 fun x142 x142n x142c =>
                        pif (decide (v137 < (x142n : Int))) (
                          ixA a0 a0n v132 1 fun p143 =>
                          ldC (World.drew w26) p143 fun x144 x144n x144c =>
                          ixA x144 x144n v137 2 fun p145 =>
                          ldI .i64 (World.drew w26) (p145.add 0) fun x146 =>
                          ldB (World.drew w26) (p145.add 1) fun x147 =>
                          cl Try.prog 34 [.int .i64 v132, .int .i64 v137] (World.drew w26) fun e149 w27 => ∃ x148 : Int, e149 = Ending.returned (.int .i64 x148) ∧
                          (
                            ldI .i64 w27 (p145.add 0) fun x150 =>
                            ldB w27 (p145.add 1) fun x151 =>
                            ((.agg #[.int .i64 x150, .bool x151] : Value) = .agg #[.int .i64 x146, .bool x147])) ∧
                          (
                            ldC w27 p143 fun x152 x152n x152c =>
                            ((.slice x152 x152n x152c : Value) = .slice x144 x144n x144c)) ∧
                          eqV Try.prog .eql 50 (.agg #[.int .i64 x146, .bool x147]) (.agg #[.int .i64 x148, .bool ((Int.tmod (IntKind.wrap .i64 (v132 + v137)) 2) == 0)]) fun q153 =>
                          gd (α := Addr) (!(!q153)) (fun k154 =>
                            ixA v24 v24n v132 1 fun p155 =>
                            k154 p155 w27) ⟨0, 0, none⟩ w27 fun x156 _ =>
                          gd (α := (Option Addr × Nat × Nat)) (!(!q153)) (fun k157 =>
                            ldC w27 x156 fun x158 x158n x158c =>
                            k157 (x158, x158n, x158c) w27) (none, 0, 0) w27 fun x159 _ =>
                          gd (α := Addr) (!(!q153)) (fun k160 =>
                            ixA x159.1 x159.2.1 v137 2 fun p161 =>
                            k160 p161 w27) ⟨0, 0, none⟩ w27 fun x162 _ =>
                          gd (α := (Int × Bool × Unit)) (!(!q153)) (fun k163 =>
                            ldI .i64 w27 (x162.add 0) fun x164 =>
                            ldB w27 (x162.add 1) fun x165 =>
                            k163 (x164, x165, ()) w27) (0, false, ()) w27 fun x166 _ =>
                          gd (α := Int) (!(!q153)) (fun k167 =>
                            cl Try.prog 34 [.int .i64 v132, .int .i64 v137] w27 fun e169 w28 => ∃ x168 : Int, e169 = Ending.returned (.int .i64 x168) ∧
                            k167 x168 w28) 0 w27 fun x170 w29 =>
                          ((!(!q153)) = true →
                            ldI .i64 w29 (x162.add 0) fun x171 =>
                            ldB w29 (x162.add 1) fun x172 =>
                            ((.agg #[.int .i64 x171, .bool x172] : Value) = .agg #[.int .i64 x166.1, .bool x166.2.1])) ∧
                          ((!(!q153)) = true →
                            ldC w29 x156 fun x173 x173n x173c =>
                            ((.slice x173 x173n x173c : Value) = .slice x159.1 x159.2.1 x159.2.2)) ∧
                          gd (α := Bool) (!(!q153)) (fun k174 =>
                            eqV Try.prog .eql 50 (.agg #[.int .i64 x166.1, .bool x166.2.1]) (.agg #[.int .i64 x170, .bool ((Int.tmod (IntKind.wrap .i64 (v132 + v137)) 2) == 0)]) fun q175 =>
                            k174 q175 w29) false w29 fun x176 _ =>
                          pif (cond (!q153) true (!x176)) (
                            R (.bool false) w29) (
                            k138 ((IntKind.wrap .i64 (v137 + 1)), ()) w29)) (
                          k133 ((IntKind.wrap .i64 (v132 + 1)), ()) w26)) (0, ()) w25) (
                      R (.bool true) w25)) (0, ()) w18)) (0, ()) w13)) (0, ()) w6)) ((none, 0, 0), 0, ()) w1)) (0, ()) w
def An25 : An := .seq (.leaf) (.seq (.seq (.leaf) (.blk (.loop [(3, .one (.int .i64))] (.seq (.seq (.leaf) (.cond (.leaf) (.leaf))) (.seq (.blk (.seq (.leaf) (.blk (.loop [(4, .one (.int .i64))] (.seq (.seq (.leaf) (.cond (.leaf) (.leaf))) (.seq (.blk (.draw [0, 0, 3, 7, 0, 0, 0, 96, 0, 0, 768, 1792, 3840, 8160, 16383, 32767])) (.leaf))))))) (.leaf)))))) (.seq (.leaf) (.seq (.seq (.leaf) (.blk (.loop [(5, .one (.slc)), (6, .one (.int .i64))] (.seq (.seq (.leaf) (.cond (.leaf) (.leaf))) (.seq (.blk (.seq (.leaf) (.seq (.seq (.leaf) (.blk (.loop [(7, .one (.slc)), (8, .one (.int .i64))] (.seq (.seq (.leaf) (.cond (.leaf) (.leaf))) (.seq (.blk (.draw [0, 0, 0, 0, 12, 28, 60, 0, 252, 510, 0, 0, 0, 6144, 14336, 30720, 64512, 0, 261120, 523264, 1047552, 2097150, 4194302, 8388607, 16777215])) (.leaf)))))) (.leaf)))) (.leaf)))))) (.seq (.seq (.leaf) (.blk (.loop [(9, .one (.int .i64))] (.seq (.seq (.leaf) (.cond (.leaf) (.leaf))) (.seq (.blk (.seq (.leaf) (.blk (.loop [(10, .one (.int .i64))] (.seq (.seq (.leaf) (.cond (.leaf) (.leaf))) (.seq (.blk (.seq (.draw [0, 0, 3, 7, 0, 31, 63, 0, 0, 384, 0, 0, 3072, 7168, 15360, 32640, 65535, 131071, 262143, 524287, 524287, 524287, 3670015, 7864319, 16252927, 33554431, 67108863, 134217727, 134217727, 536870911, 1073741823, 134217727, 4294967295, 8589934591, 134217727, 134217727, 51673825279, 134217727, 134217727, 412451078143, 962206892031, 2061718519807, 4381000859647, 8796093022207, 17592186044415, 35184372088831, 70368744177663]) (.cond (.seq (.leaf) (.leaf)) (.leaf)))) (.leaf))))))) (.leaf)))))) (.seq (.seq (.leaf) (.blk (.loop [(11, .one (.int .i64))] (.seq (.seq (.leaf) (.cond (.leaf) (.leaf))) (.seq (.blk (.seq (.leaf) (.seq (.seq (.leaf) (.blk (.loop [(12, .one (.slc)), (13, .one (.int .i64))] (.seq (.seq (.leaf) (.cond (.leaf) (.leaf))) (.seq (.blk (.leaf)) (.leaf)))))) (.leaf)))) (.leaf)))))) (.seq (.seq (.leaf) (.blk (.loop [(14, .one (.int .i64))] (.seq (.seq (.leaf) (.cond (.leaf) (.leaf))) (.seq (.blk (.seq (.leaf) (.blk (.loop [(15, .one (.int .i64))] (.seq (.seq (.leaf) (.cond (.leaf) (.leaf))) (.seq (.blk (.seq (.draw [0, 0, 3, 7, 0, 31, 63, 0, 0, 384, 0, 0, 3072, 7168, 15360, 32640, 65535, 131071, 262143, 524287, 524287, 2097151, 4194303, 524287, 16777215, 33554431, 524287, 524287, 201850879, 524287, 524287, 1611137023, 3758620671, 8053587967, 17113284607, 34359738367, 68719476735, 137438953471]) (.cond (.seq (.leaf) (.leaf)) (.leaf)))) (.leaf))))))) (.leaf)))))) (.seq (.leaf) (.leaf))))))))
theorem V25_eq (a0 : Option Addr) (a0n : Nat) (a0c : Nat) (w : World) (R : Value → World → Prop) : evF Try.prog Try.f25 An25 [.slice a0 a0n a0c] w R = V25 a0 a0n a0c w R := by kernel_rfl
theorem V25_calls (a0 : Option Addr) (a0n : Nat) (a0c : Nat) (w : World) (R : Value → World → Prop) (h : V25 a0 a0n a0c w R) : Calls Try.prog 25 #[.slice a0 a0n a0c] w fun e w' => ∃ v, e = .returned v ∧ R v w' :=
  calls_of_ev (args := [.slice a0 a0n a0c]) Try.func25 (Nat.le_of_ble_eq_true (by kernel_rfl)) (by rw [V25_eq]; exact h)
theorem ok25 : fnOk Try.prog 25 = true := by kernel_rfl

/-! depot/depotkit.mark -/
def V34 (a0 : Int) (a1 : Int) (w : World) (R : Value → World → Prop) : Prop :=
  R (.int .i64 (IntKind.wrap .i64 ((IntKind.wrap .i64 (1000003 * (IntKind.wrap .i64 (a0 + 7)))) + a1))) w
def An34 : An := .seq (.leaf) (.seq (.leaf) (.leaf))
theorem V34_eq (a0 : Int) (a1 : Int) (w : World) (R : Value → World → Prop) : evF Try.prog Try.f34 An34 [.int .i64 a0, .int .i64 a1] w R = V34 a0 a1 w R := by kernel_rfl
theorem V34_calls (a0 : Int) (a1 : Int) (w : World) (R : Value → World → Prop) (h : V34 a0 a1 w R) : Calls Try.prog 34 #[.int .i64 a0, .int .i64 a1] w fun e w' => ∃ v, e = .returned v ∧ R v w' :=
  calls_of_ev (args := [.int .i64 a0, .int .i64 a1]) Try.func34 (Nat.le_of_ble_eq_true (by kernel_rfl)) (by rw [V34_eq]; exact h)
theorem ok34 : fnOk Try.prog 34 = true := by kernel_rfl

end Go.Proofs.Ytkpoagdhekimpaa.T
