/- The conditions under which the functions printed here return, as propositions over typed values; each is the machine's own, by the generator's theorem. -/
import Derived.Test.YtjpblaenebodlaaProg
import Derived.Test.YtjpblaenebodlaaMVcL
set_option linter.unusedVariables false
set_option maxRecDepth 100000
namespace Go.Proofs.Ytjpblaenebodlaa.T
open Go Go.Proofs.Ytjpblaenebodlaa.Vc
/-! depot/depotlaw07.WatchNumbers -/
def V3  (w : World) (R : Value → World → Prop) : Prop :=
  cl Try.prog 7 [.agg #[.int .i64 (-1), .slice none 0 0]] w fun e5 w1 => ∃ x3 : Option Addr, ∃ x4 : Int, e5 = Ending.returned (.tuple #[.pointer x3, .int .i64 x4]) ∧
  alc w1 [.int .i64 1] 3 fun b7 w2 =>
  alc w2 [.slice (some (⟨b7, 0, none⟩ : Addr)) 1 1] 29 fun b8 w3 =>
  cl Try.prog 7 [.agg #[.int .i64 2, .slice (some (⟨b8, 0, none⟩ : Addr)) 1 1]] w3 fun e11 w4 => ∃ x9 : Option Addr, ∃ x10 : Int, e11 = Ending.returned (.tuple #[.pointer x9, .int .i64 x10]) ∧
  pif (cond (cond (cond (!(Option.isNone x3)) true (Option.isNone x9)) true (x4 != 1)) true (x10 != 0)) (
    R (.bool false) w4) (
    cl Try.prog 8 [.pointer x9, .int .i64 2] w4 fun e16 w5 => ∃ x15 : Int, e16 = Ending.returned (.int .i64 x15) ∧
    cl Try.prog 9 [.pointer x9] w5 fun e19 w6 => ∃ x18 : Int, e19 = Ending.returned (.int .i64 x18) ∧
    cl Try.prog 10 [.pointer x9] w6 fun e22 w7 => ∃ x21 : Bool, e22 = Ending.returned (.bool x21) ∧
    cl Try.prog 8 [.pointer x9, .int .i64 (-1)] w7 fun e25 w8 => ∃ x24 : Int, e25 = Ending.returned (.int .i64 x24) ∧
    cl Try.prog 8 [.pointer x9, .int .i64 3] w8 fun e28 w9 => ∃ x27 : Int, e28 = Ending.returned (.int .i64 x27) ∧
    R (.bool (cond (cond (cond (cond (x15 == 3) (x18 == 3) false) x21 false) (x24 == 50) false) (x27 == 1) false)) w9)
def An3 : An := .seq (.leaf) (.seq (.leaf) (.seq (.leaf) (.seq (.seq (.leaf) (.cond (.seq (.leaf) (.leaf)) (.leaf))) (.seq (.leaf) (.seq (.leaf) (.seq (.leaf) (.seq (.leaf) (.seq (.leaf) (.seq (.leaf) (.leaf))))))))))
theorem V3_eq  (w : World) (R : Value → World → Prop) : evF Try.prog Try.f3 An3 [] w R = V3  w R := by kernel_rfl
theorem V3_calls  (w : World) (R : Value → World → Prop) (h : V3  w R) : Calls Try.prog 3 #[] w fun e w' => ∃ v, e = .returned v ∧ R v w' :=
  calls_of_ev (args := []) Try.func3 (Nat.le_of_ble_eq_true (by kernel_rfl)) (by rw [V3_eq]; exact h)
theorem ok3 : fnOk Try.prog 3 = true := by kernel_rfl

/-! depot/depotlaw07.WatchRoads -/
def V4 (a0_0 : Int) (a0_1 : Option Addr) (a0_1n : Nat) (a0_1c : Nat) (a1 : Option Addr) (a1n : Nat) (a1c : Nat) (a2 : Int) (w : World) (R : Value → World → Prop) : Prop :=
  alc w [.int .i64 a0_0, .slice a0_1 a0_1n a0_1c] 28 fun b2 w1 =>
  ldI .i64 w1 ((⟨b2, 0, none⟩ : Addr).add 0) fun x4 =>
  ldC w1 ((⟨b2, 0, none⟩ : Addr).add 1) fun x5 x5n x5c =>
  cl Try.prog 11 [.agg #[.int .i64 x4, .slice x5 x5n x5c]] w1 fun e8 w2 => ∃ x6 : Int, ∃ (x7 : Option Addr) (x7n x7c : Nat), e8 = Ending.returned (.agg #[.int .i64 x6, .slice x7 x7n x7c]) ∧
  cl Try.prog 7 [.agg #[.int .i64 x6, .slice x7 x7n x7c]] w2 fun e11 w3 => ∃ x9 : Option Addr, ∃ x10 : Int, e11 = Ending.returned (.tuple #[.pointer x9, .int .i64 x10]) ∧
  pif (cond (x10 != 0) true (Option.isNone x9)) (
    R (.bool (cond (x10 == 1) (Option.isNone x9) false)) w3) (
    ldI .i64 w3 ((⟨b2, 0, none⟩ : Addr).add 0) fun x15 =>
    cl Try.prog 7 [.agg #[.int .i64 x15, .slice none 0 0]] w3 fun e18 w4 => ∃ x16 : Option Addr, ∃ x17 : Int, e18 = Ending.returned (.tuple #[.pointer x16, .int .i64 x17]) ∧
    gd (α := Bool) (!(cond (x17 != 0) true (Option.isNone x16))) (fun k20 =>
      cl Try.prog 10 [.pointer x16] w4 fun e22 w5 => ∃ x21 : Bool, e22 = Ending.returned (.bool x21) ∧
      k20 x21 w5) false w4 fun x23 w6 =>
    pif (cond (cond (x17 != 0) true (Option.isNone x16)) true (!x23)) (
      R (.bool false) w6) (
      ldC w6 ((⟨b2, 0, none⟩ : Addr).add 1) fun x26 x26n x26c =>
      lp (σ := Int × Unit) (fun s29 w7 k28 => match s29 with
        | (v27, _) =>
        pif (decide (v27 ≥ 0)) (
          cl Try.prog 8 [.pointer x16, .int .i64 a2] w7 fun e33 w8 => ∃ x32 : Int, e33 = Ending.returned (.int .i64 x32) ∧
          ldC w8 ((⟨b2, 0, none⟩ : Addr).add 1) fun x35 x35n x35c =>
          ixA x35 x35n v27 1 fun p36 =>
          ldC w8 p36 fun x37 x37n x37c =>
          cl Try.prog 13 [.slice x37 x37n x37c] w8 fun e39 w9 => ∃ (x38 : Option Addr) (x38n x38c : Nat), e39 = Ending.returned (.slice x38 x38n x38c) ∧
          cl Try.prog 12 [.pointer x16, .slice x38 x38n x38c] w9 fun e41 w10 => ∃ x40 : Int, e41 = Ending.returned (.int .i64 x40) ∧
          pif (x40 != 0) (
            R (.bool false) w10) (
            cl Try.prog 10 [.pointer x16] w10 fun e45 w11 => ∃ x44 : Bool, e45 = Ending.returned (.bool x44) ∧
            gd (α := Int) (x32 == 0) (fun k47 =>
              cl Try.prog 9 [.pointer x16] w11 fun e49 w12 => ∃ x48 : Int, e49 = Ending.returned (.int .i64 x48) ∧
              k47 x48 w12) 0 w11 fun x50 w13 =>
            pif (cond (x32 == 0) (x50 != 0) false) (
              R (.bool false) w13) (
              cl Try.prog 10 [.pointer x16] w13 fun e54 w14 => ∃ x53 : Bool, e54 = Ending.returned (.bool x53) ∧
              k28 ((IntKind.wrap .i64 (v27 - 1)), ()) w14))) (
          cl Try.prog 14 [.pointer x16] w7 fun e58 w15 => ∃ x57 : Int, e58 = Ending.returned (.int .i64 x57) ∧
          pif (x57 != 0) (
            R (.bool false) w15) (
            cl Try.prog 15 [.pointer x9, .slice a1 a1n a1c] w15 fun e63 w16 => ∃ x61 : Bool, ∃ (x62 : Option Addr) (x62n x62c : Nat), e63 = Ending.returned (.tuple #[.bool x61, .slice x62 x62n x62c]) ∧
            cl Try.prog 15 [.pointer x16, .slice a1 a1n a1c] w16 fun e67 w17 => ∃ x65 : Bool, ∃ (x66 : Option Addr) (x66n x66c : Nat), e67 = Ending.returned (.tuple #[.bool x65, .slice x66 x66n x66c]) ∧
            gd (α := Bool) (x61 == x65) (fun k69 =>
              cl Try.prog 16 [.slice x62 x62n x62c, .slice x66 x66n x66c] w17 fun e71 w18 => ∃ x70 : Bool, e71 = Ending.returned (.bool x70) ∧
              k69 x70 w18) false w17 fun x72 w19 =>
            gd (α := Int) (cond (x61 == x65) x72 false) (fun k73 =>
              cl Try.prog 14 [.pointer x16] w19 fun e75 w20 => ∃ x74 : Int, e75 = Ending.returned (.int .i64 x74) ∧
              k73 x74 w20) 0 w19 fun x76 w21 =>
            gd (α := Int) (cond (x61 == x65) x72 false) (fun k77 =>
              cl Try.prog 14 [.pointer x9] w21 fun e79 w22 => ∃ x78 : Int, e79 = Ending.returned (.int .i64 x78) ∧
              k77 x78 w22) 0 w21 fun x80 w23 =>
            R (.bool (cond (cond (x61 == x65) x72 false) (x76 == x80) false)) w23))) ((IntKind.wrap .i64 ((x26n : Int) - 1)), ()) w6))
def An4 : An := .seq (.leaf) (.seq (.leaf) (.seq (.seq (.leaf) (.cond (.seq (.leaf) (.leaf)) (.leaf))) (.seq (.leaf) (.seq (.seq (.leaf) (.cond (.seq (.leaf) (.leaf)) (.leaf))) (.seq (.seq (.leaf) (.blk (.loop [(11, .one (.int .i64))] (.seq (.seq (.leaf) (.cond (.leaf) (.leaf))) (.seq (.blk (.seq (.leaf) (.seq (.seq (.leaf) (.cond (.seq (.leaf) (.leaf)) (.leaf))) (.seq (.leaf) (.seq (.seq (.leaf) (.cond (.seq (.leaf) (.leaf)) (.leaf))) (.leaf)))))) (.leaf)))))) (.seq (.seq (.leaf) (.cond (.seq (.leaf) (.leaf)) (.leaf))) (.seq (.leaf) (.seq (.leaf) (.seq (.leaf) (.leaf))))))))))
theorem V4_eq (a0_0 : Int) (a0_1 : Option Addr) (a0_1n : Nat) (a0_1c : Nat) (a1 : Option Addr) (a1n : Nat) (a1c : Nat) (a2 : Int) (w : World) (R : Value → World → Prop) : evF Try.prog Try.f4 An4 [.agg #[.int .i64 a0_0, .slice a0_1 a0_1n a0_1c], .slice a1 a1n a1c, .int .i64 a2] w R = V4 a0_0 a0_1 a0_1n a0_1c a1 a1n a1c a2 w R := by kernel_rfl
theorem V4_calls (a0_0 : Int) (a0_1 : Option Addr) (a0_1n : Nat) (a0_1c : Nat) (a1 : Option Addr) (a1n : Nat) (a1c : Nat) (a2 : Int) (w : World) (R : Value → World → Prop) (h : V4 a0_0 a0_1 a0_1n a0_1c a1 a1n a1c a2 w R) : Calls Try.prog 4 #[.agg #[.int .i64 a0_0, .slice a0_1 a0_1n a0_1c], .slice a1 a1n a1c, .int .i64 a2] w fun e w' => ∃ v, e = .returned v ∧ R v w' :=
  calls_of_ev (args := [.agg #[.int .i64 a0_0, .slice a0_1 a0_1n a0_1c], .slice a1 a1n a1c, .int .i64 a2]) Try.func4 (Nat.le_of_ble_eq_true (by kernel_rfl)) (by rw [V4_eq]; exact h)
theorem ok4 : fnOk Try.prog 4 = true := by kernel_rfl

/-! depot/depotlaw07.WatchPlays -/
def V5 (a0_0 : Int) (a0_1 : Option Addr) (a0_1n : Nat) (a0_1c : Nat) (a0_2 : Int) (a0_3 : Option Addr) (a0_3n : Nat) (a0_3c : Nat) (a0_4 : Option Addr) (a0_4n : Nat) (a0_4c : Nat) (w : World) (R : Value → World → Prop) : Prop :=
  alc w [.int .i64 a0_0, .slice a0_1 a0_1n a0_1c, .int .i64 a0_2, .slice a0_3 a0_3n a0_3c, .slice a0_4 a0_4n a0_4c] 43 fun b2 w1 =>
  ldI .i64 w1 (((⟨b2, 0, none⟩ : Addr).add 0).add 0) fun x4 =>
  ldC w1 (((⟨b2, 0, none⟩ : Addr).add 0).add 1) fun x5 x5n x5c =>
  cl Try.prog 17 [.agg #[.int .i64 x4, .slice x5 x5n x5c]] w1 fun e9 w2 => ∃ x6 : Option Addr, ∃ x7 : Option Addr, ∃ x8 : Bool, e9 = Ending.returned (.tuple #[.agg #[.pointer x6, .pointer x7], .bool x8]) ∧
  alc w2 [.pointer none, .pointer none] 46 fun b10 w3 =>
  st w3 ((⟨b10, 0, none⟩ : Addr).add 0) (.pointer x6) fun w4 =>
  st w4 ((⟨b10, 0, none⟩ : Addr).add 1) (.pointer x7) fun w5 =>
  pif (!x8) (
    R (.bool false) w5) (
    ldI .i64 w5 (((⟨b2, 0, none⟩ : Addr).add 2).add 0) fun x14 =>
    ldC w5 (((⟨b2, 0, none⟩ : Addr).add 2).add 1) fun x15 x15n x15c =>
    cl Try.prog 17 [.agg #[.int .i64 x14, .slice x15 x15n x15c]] w5 fun e19 w6 => ∃ x16 : Option Addr, ∃ x17 : Option Addr, ∃ x18 : Bool, e19 = Ending.returned (.tuple #[.agg #[.pointer x16, .pointer x17], .bool x18]) ∧
    alc w6 [.pointer none, .pointer none] 46 fun b20 w7 =>
    st w7 ((⟨b20, 0, none⟩ : Addr).add 0) (.pointer x16) fun w8 =>
    st w8 ((⟨b20, 0, none⟩ : Addr).add 1) (.pointer x17) fun w9 =>
    pif (!x18) (
      R (.bool false) w9) (
      lp (σ := Int × Unit) (fun s26 w10 k25 => match s26 with
        | (v24, _) =>
        ldC w10 ((⟨b2, 0, none⟩ : Addr).add 4) fun x28 x28n x28c =>
        pif (decide (v24 < (x28n : Int))) (
          jn (σ := Unit) (fun k29 =>
            jn (σ := (Option Addr) × Unit) (fun k33 =>
              ldC w10 ((⟨b2, 0, none⟩ : Addr).add 4) fun x36 x36n x36c =>
              ixA x36 x36n v24 4 fun p37 =>
              ldI .i64 w10 (p37.add 1) fun x38 =>
              pif ((Int.tmod x38 2) != 0) (
                k33 ((some (⟨b20, 0, none⟩ : Addr)), ()) w10) (
                k33 ((some (⟨b10, 0, none⟩ : Addr)), ()) w10)) fun s34 w12 => match s34 with
            | (v32, _) =>
            nn v32 fun p41 =>
            ldP w12 (p41.add 0) fun x42 =>
            pif (Option.isNone x42) (
              k29 (()) w12) (
              ldC w12 ((⟨b2, 0, none⟩ : Addr).add 4) fun x44 x44n x44c =>
              ixA x44 x44n v24 4 fun p45 =>
              ldI .i64 w12 (p45.add 0) fun x46 =>
              ldI .i64 w12 (p45.add 1) fun x47 =>
              ldI .i64 w12 (p45.add 2) fun x48 =>
              ldC w12 (p45.add 3) fun x49 x49n x49c =>
              cl Try.prog 18 [.pointer v32, .agg #[.int .i64 x46, .int .i64 x47, .int .i64 x48, .slice x49 x49n x49c]] w12 fun e51 w13 => ∃ x50 : Bool, e51 = Ending.returned (.bool x50) ∧
              pif (!x50) (
                R (.bool false) w13) (
                k29 (()) w13))) fun s30 w11 => match s30 with
          | (_) =>
          k25 ((IntKind.wrap .i64 (v24 + 1)), ()) w11) (
          ldP w10 ((⟨b10, 0, none⟩ : Addr).add 0) fun x56 =>
          pif (Option.isNone x56) (
            R (.bool true) w10) (
            cl Try.prog 18 [.pointer (some (⟨b10, 0, none⟩ : Addr)), .agg #[.int .i64 3, .int .i64 0, .int .i64 0, .slice none 0 0]] w10 fun e60 w14 => ∃ x59 : Bool, e60 = Ending.returned (.bool x59) ∧
            gd (α := Bool) x59 (fun k61 =>
              cl Try.prog 18 [.pointer (some (⟨b10, 0, none⟩ : Addr)), .agg #[.int .i64 5, .int .i64 0, .int .i64 0, .slice none 0 0]] w14 fun e63 w15 => ∃ x62 : Bool, e63 = Ending.returned (.bool x62) ∧
              k61 x62 w15) false w14 fun x64 w16 =>
            gd (α := Bool) (cond x59 x64 false) (fun k65 =>
              cl Try.prog 18 [.pointer (some (⟨b10, 0, none⟩ : Addr)), .agg #[.int .i64 6, .int .i64 0, .int .i64 0, .slice none 0 0]] w16 fun e67 w17 => ∃ x66 : Bool, e67 = Ending.returned (.bool x66) ∧
              k65 x66 w17) false w16 fun x68 w18 =>
            R (.bool (cond (cond x59 x64 false) x68 false)) w18))) (0, ()) w9))
def An5 : An := .seq (.leaf) (.seq (.leaf) (.seq (.seq (.leaf) (.cond (.seq (.leaf) (.leaf)) (.leaf))) (.seq (.leaf) (.seq (.seq (.leaf) (.cond (.seq (.leaf) (.leaf)) (.leaf))) (.seq (.seq (.leaf) (.blk (.loop [(6, .one (.int .i64))] (.seq (.seq (.leaf) (.cond (.leaf) (.leaf))) (.seq (.join [] (.blk (.seq (.leaf) (.seq (.join [(7, .one (.ptr))] (.seq (.leaf) (.cond (.leaf) (.leaf)))) (.seq (.seq (.leaf) (.cond (.leaf) (.leaf))) (.seq (.leaf) (.seq (.leaf) (.cond (.seq (.leaf) (.leaf)) (.leaf))))))))) (.leaf)))))) (.seq (.seq (.leaf) (.cond (.seq (.leaf) (.leaf)) (.leaf))) (.seq (.leaf) (.leaf))))))))
theorem V5_eq (a0_0 : Int) (a0_1 : Option Addr) (a0_1n : Nat) (a0_1c : Nat) (a0_2 : Int) (a0_3 : Option Addr) (a0_3n : Nat) (a0_3c : Nat) (a0_4 : Option Addr) (a0_4n : Nat) (a0_4c : Nat) (w : World) (R : Value → World → Prop) : evF Try.prog Try.f5 An5 [.agg #[.int .i64 a0_0, .slice a0_1 a0_1n a0_1c, .int .i64 a0_2, .slice a0_3 a0_3n a0_3c, .slice a0_4 a0_4n a0_4c]] w R = V5 a0_0 a0_1 a0_1n a0_1c a0_2 a0_3 a0_3n a0_3c a0_4 a0_4n a0_4c w R := by kernel_rfl
theorem V5_calls (a0_0 : Int) (a0_1 : Option Addr) (a0_1n : Nat) (a0_1c : Nat) (a0_2 : Int) (a0_3 : Option Addr) (a0_3n : Nat) (a0_3c : Nat) (a0_4 : Option Addr) (a0_4n : Nat) (a0_4c : Nat) (w : World) (R : Value → World → Prop) (h : V5 a0_0 a0_1 a0_1n a0_1c a0_2 a0_3 a0_3n a0_3c a0_4 a0_4n a0_4c w R) : Calls Try.prog 5 #[.agg #[.int .i64 a0_0, .slice a0_1 a0_1n a0_1c, .int .i64 a0_2, .slice a0_3 a0_3n a0_3c, .slice a0_4 a0_4n a0_4c]] w fun e w' => ∃ v, e = .returned v ∧ R v w' :=
  calls_of_ev (args := [.agg #[.int .i64 a0_0, .slice a0_1 a0_1n a0_1c, .int .i64 a0_2, .slice a0_3 a0_3n a0_3c, .slice a0_4 a0_4n a0_4c]]) Try.func5 (Nat.le_of_ble_eq_true (by kernel_rfl)) (by rw [V5_eq]; exact h)
theorem ok5 : fnOk Try.prog 5 = true := by kernel_rfl

/-! depot/depotlaw07.WatchFollows -/
def V6 (a0_0 : Int) (a0_1 : Option Addr) (a0_1n : Nat) (a0_1c : Nat) (a1 : Option Addr) (a1n : Nat) (a1c : Nat) (a2 : Option Addr) (a2n : Nat) (a2c : Nat) (w : World) (R : Value → World → Prop) : Prop :=
  alc w [.int .i64 a0_0, .slice a0_1 a0_1n a0_1c] 28 fun b2 w1 =>
  ldI .i64 w1 ((⟨b2, 0, none⟩ : Addr).add 0) fun x4 =>
  alc w1 [.int .i64 0, .slice none 0 0] 28 fun b5 w2 =>
  st w2 ((⟨b5, 0, none⟩ : Addr).add 0) (.int .i64 x4) fun w3 =>
  st w3 ((⟨b5, 0, none⟩ : Addr).add 1) (.slice none 0 0) fun w4 =>
  lp (σ := Int × Unit) (fun s9 w5 k8 => match s9 with
    | (v7, _) =>
    ldC w5 ((⟨b2, 0, none⟩ : Addr).add 1) fun x11 x11n x11c =>
    pif (decide (v7 < (x11n : Int))) (
      jn (σ := Unit) (fun k12 =>
        ldC w5 ((⟨b2, 0, none⟩ : Addr).add 1) fun x15 x15n x15c =>
        ixA x15 x15n v7 1 fun p16 =>
        ldC w5 p16 fun x17 x17n x17c =>
        cl Try.prog 19 [.slice a1 a1n a1c, .slice x17 x17n x17c] w5 fun e19 w7 => ∃ x18 : Bool, e19 = Ending.returned (.bool x18) ∧
        pif x18 (
          ldC (World.drew w7) ((⟨b5, 0, none⟩ : Addr).add 1) fun x20 x20n x20c =>
          ldC (World.drew w7) ((⟨b2, 0, none⟩ : Addr).add 1) fun x21 x21n x21c =>
          ixA x21 x21n v7 1 fun p22 =>
          ldC (World.drew w7) p22 fun x23 x23n x23c =>
          cl Try.prog 13 [.slice x23 x23n x23c] (World.drew w7) fun e25 w8 => ∃ (x24 : Option Addr) (x24n x24c : Nat), e25 = Ending.returned (.slice x24 x24n x24c) ∧
          (
            ldC w8 ((⟨b5, 0, none⟩ : Addr).add 1) fun x26 x26n x26c =>
            ((.slice x26 x26n x26c : Value) = .slice x20 x20n x20c)) ∧
          alc w8 [.slice x24 x24n x24c] 29 fun b27 w9 =>
          (
            ldC w9 ((⟨b5, 0, none⟩ : Addr).add 1) fun x28 x28n x28c =>
            ((.slice x28 x28n x28c : Value) = .slice x20 x20n x20c)) ∧
          ∃ (x29 : Option Addr) (x29n x29c : Nat), ∃ w10 : World, (Builtin.append_ #[26, 26] 26 #[.slice x20 x20n x20c, .slice (some (⟨b27, 0, none⟩ : Addr)) 1 1]).run Try.prog w9 = .ok (.slice x29 x29n x29c) w10 ∧
          st w10 (((⟨b5, 0, none⟩ : Addr).add 1).add 0) (.slice x29 x29n x29c) fun w11 =>
          k12 (()) w11) (
          k12 (()) w7)) fun s13 w6 => match s13 with
      | (_) =>
      k8 ((IntKind.wrap .i64 (v7 + 1)), ()) w6) (
      ldI .i64 w5 ((⟨b5, 0, none⟩ : Addr).add 0) fun x32 =>
      ldC w5 ((⟨b5, 0, none⟩ : Addr).add 1) fun x33 x33n x33c =>
      cl Try.prog 7 [.agg #[.int .i64 x32, .slice x33 x33n x33c]] w5 fun e36 w12 => ∃ x34 : Option Addr, ∃ x35 : Int, e36 = Ending.returned (.tuple #[.pointer x34, .int .i64 x35]) ∧
      pif (cond (x35 != 0) true (Option.isNone x34)) (
        R (.bool (cond (x35 == 1) (Option.isNone x34) false)) w12) (
        lp (σ := Int × Unit) (fun s42 w13 k41 => match s42 with
          | (v40, _) =>
          pif (decide (v40 < (a2n : Int))) (
            jn (σ := Unit) (fun k44 =>
              ixA a2 a2n v40 4 fun p47 =>
              ldI .i64 w13 (p47.add 0) fun x48 =>
              pif (x48 == 1) (
                ixA a2 a2n v40 4 fun p51 =>
                ldC w13 (p51.add 3) fun x52 x52n x52c =>
                cl Try.prog 19 [.slice a1 a1n a1c, .slice x52 x52n x52c] w13 fun e54 w15 => ∃ x53 : Bool, e54 = Ending.returned (.bool x53) ∧
                pif x53 (
                  ixA a2 a2n v40 4 fun p56 =>
                  ldC w15 (p56.add 3) fun x57 x57n x57c =>
                  cl Try.prog 13 [.slice x57 x57n x57c] w15 fun e59 w16 => ∃ (x58 : Option Addr) (x58n x58c : Nat), e59 = Ending.returned (.slice x58 x58n x58c) ∧
                  cl Try.prog 12 [.pointer x34, .slice x58 x58n x58c] w16 fun e61 w17 => ∃ x60 : Int, e61 = Ending.returned (.int .i64 x60) ∧
                  k44 (()) w17) (
                  k44 (()) w15)) (
                pif (x48 == 2) (
                  ixA a2 a2n v40 4 fun p64 =>
                  ldI .i64 w13 (p64.add 2) fun x65 =>
                  cl Try.prog 20 [.slice a1 a1n a1c, .int .i64 x65] w13 fun e67 w18 => ∃ x66 : Bool, e67 = Ending.returned (.bool x66) ∧
                  pif x66 (
                    ixA a2 a2n v40 4 fun p69 =>
                    ldI .i64 w18 (p69.add 2) fun x70 =>
                    cl Try.prog 8 [.pointer x34, .int .i64 x70] w18 fun e72 w19 => ∃ x71 : Int, e72 = Ending.returned (.int .i64 x71) ∧
                    k44 (()) w19) (
                    k44 (()) w18)) (
                  pif (x48 == 4) (
                    cl Try.prog 9 [.pointer x34] w13 fun e76 w20 => ∃ x75 : Int, e76 = Ending.returned (.int .i64 x75) ∧
                    k44 (()) w20) (
                    k44 (()) w13)))) fun s45 w14 => match s45 with
            | (_) =>
            cl Try.prog 10 [.pointer x34] w14 fun e79 w21 => ∃ x78 : Bool, e79 = Ending.returned (.bool x78) ∧
            cl Try.prog 21 [.pointer x34] w21 fun e82 w22 => ∃ (x81 : Option Addr) (x81n x81c : Nat), e82 = Ending.returned (.slice x81 x81n x81c) ∧
            gd (α := Bool) (!(!x78)) (fun k84 =>
              cl Try.prog 22 [.pointer x34] w22 fun e86 w23 => ∃ x85 : Bool, e86 = Ending.returned (.bool x85) ∧
              k84 x85 w23) false w22 fun x87 w24 =>
            pif (cond (!x78) true x87) (
              R (.bool false) w24) (
              lp (σ := Int × Unit) (fun s92 w25 k91 => match s92 with
                | (v90, _) =>
                pif (decide (v90 < (x81n : Int))) (
                  ixA x81 x81n v90 1 fun p95 =>
                  ldI .i64 w25 p95 fun x96 =>
                  cl Try.prog 20 [.slice a1 a1n a1c, .int .i64 x96] w25 fun e98 w26 => ∃ x97 : Bool, e98 = Ending.returned (.bool x97) ∧
                  pif (!x97) (
                    R (.bool false) w26) (
                    k91 ((IntKind.wrap .i64 (v90 + 1)), ()) w26)) (
                  k41 ((IntKind.wrap .i64 (v40 + 1)), ()) w25)) (0, ()) w24)) (
            cl Try.prog 10 [.pointer x34] w13 fun e104 w27 => ∃ x103 : Bool, e104 = Ending.returned (.bool x103) ∧
            R (.bool x103) w27)) (0, ()) w12))) (0, ()) w4
def An6 : An := .seq (.leaf) (.seq (.leaf) (.seq (.seq (.leaf) (.blk (.loop [(8, .one (.int .i64))] (.seq (.seq (.leaf) (.cond (.leaf) (.leaf))) (.seq (.join [] (.blk (.seq (.leaf) (.cond (.draw [0, 1, 0, 4, 0, 28, 60, 124, 252, 511, 1023, 2047]) (.leaf))))) (.leaf)))))) (.seq (.leaf) (.seq (.seq (.leaf) (.cond (.seq (.leaf) (.leaf)) (.leaf))) (.seq (.seq (.leaf) (.blk (.loop [(11, .one (.int .i64))] (.seq (.seq (.leaf) (.cond (.leaf) (.leaf))) (.seq (.blk (.seq (.join [] (.seq (.leaf) (.blk (.seq (.leaf) (.cond (.seq (.leaf) (.cond (.leaf) (.leaf))) (.seq (.leaf) (.cond (.seq (.leaf) (.cond (.leaf) (.leaf))) (.seq (.leaf) (.cond (.leaf) (.leaf)))))))))) (.seq (.leaf) (.seq (.leaf) (.seq (.seq (.leaf) (.cond (.seq (.leaf) (.leaf)) (.leaf))) (.seq (.leaf) (.blk (.loop [(14, .one (.int .i64))] (.seq (.seq (.leaf) (.cond (.leaf) (.leaf))) (.seq (.blk (.seq (.leaf) (.cond (.seq (.leaf) (.leaf)) (.leaf)))) (.leaf))))))))))) (.leaf)))))) (.seq (.leaf) (.leaf)))))))
theorem V6_eq (a0_0 : Int) (a0_1 : Option Addr) (a0_1n : Nat) (a0_1c : Nat) (a1 : Option Addr) (a1n : Nat) (a1c : Nat) (a2 : Option Addr) (a2n : Nat) (a2c : Nat) (w : World) (R : Value → World → Prop) : evF Try.prog Try.f6 An6 [.agg #[.int .i64 a0_0, .slice a0_1 a0_1n a0_1c], .slice a1 a1n a1c, .slice a2 a2n a2c] w R = V6 a0_0 a0_1 a0_1n a0_1c a1 a1n a1c a2 a2n a2c w R := by kernel_rfl
theorem V6_calls (a0_0 : Int) (a0_1 : Option Addr) (a0_1n : Nat) (a0_1c : Nat) (a1 : Option Addr) (a1n : Nat) (a1c : Nat) (a2 : Option Addr) (a2n : Nat) (a2c : Nat) (w : World) (R : Value → World → Prop) (h : V6 a0_0 a0_1 a0_1n a0_1c a1 a1n a1c a2 a2n a2c w R) : Calls Try.prog 6 #[.agg #[.int .i64 a0_0, .slice a0_1 a0_1n a0_1c], .slice a1 a1n a1c, .slice a2 a2n a2c] w fun e w' => ∃ v, e = .returned v ∧ R v w' :=
  calls_of_ev (args := [.agg #[.int .i64 a0_0, .slice a0_1 a0_1n a0_1c], .slice a1 a1n a1c, .slice a2 a2n a2c]) Try.func6 (Nat.le_of_ble_eq_true (by kernel_rfl)) (by rw [V6_eq]; exact h)
theorem ok6 : fnOk Try.prog 6 = true := by kernel_rfl

/-! depot/watch.New -/
def V7 (a0_0 : Int) (a0_1 : Option Addr) (a0_1n : Nat) (a0_1c : Nat) (w : World) (R : Value → World → Prop) : Prop :=
  alc w [.int .i64 a0_0, .slice a0_1 a0_1n a0_1c] 28 fun b2 w1 =>
  ldI .i64 w1 ((⟨b2, 0, none⟩ : Addr).add 0) fun x4 =>
  ldC w1 ((⟨b2, 0, none⟩ : Addr).add 1) fun x5 x5n x5c =>
  cl Try.prog 23 [.agg #[.int .i64 x4, .slice x5 x5n x5c]] w1 fun e7 w2 => ∃ x6 : Bool, e7 = Ending.returned (.bool x6) ∧
  pif (!x6) (
    R (.tuple #[.pointer none, .int .i64 1]) w2) (
    ldI .i64 (World.drew w2) ((⟨b2, 0, none⟩ : Addr).add 0) fun x9 =>
    ldI .i64 (World.drew w2) ((⟨b2, 0, none⟩ : Addr).add 0) fun x10 =>
    (
      ∃ (x11 : Option Addr) (x11n x11c : Nat), ∃ w3 : World, (Instr.makeSlice 60 (.int .i64 (IntKind.wrap .i64 (x9 + 1))) (.int .i64 (IntKind.wrap .i64 (x9 + 1)))).run Try.prog (World.drew w2) = .ok (.slice x11 x11n x11c) w3 ∧
      (
        ldI .i64 w3 ((⟨b2, 0, none⟩ : Addr).add 0) fun x12 =>
        ((.int .i64 x12 : Value) = .int .i64 x10)) ∧
      ∃ (x13 : Option Addr) (x13n x13c : Nat), ∃ w4 : World, (Instr.makeSlice 61 (.int .i64 (IntKind.wrap .i64 (2 * x10))) (.int .i64 (IntKind.wrap .i64 (2 * x10)))).run Try.prog w3 = .ok (.slice x13 x13n x13c) w4 ∧
      (
        ldI .i64 w4 ((⟨b2, 0, none⟩ : Addr).add 0) fun x14 =>
        ((.int .i64 x14 : Value) = .int .i64 x9)) ∧
      alc w4 [.slice x11 x11n x11c, .slice none 0 0, .slice none 0 0, .int .i64 0, .slice x13 x13n x13c, .slice none 0 0, .bool false, .bool false] 64 fun b15 w5 =>
      ldC w5 ((⟨b2, 0, none⟩ : Addr).add 1) fun x17 x17n x17c =>
      lp (σ := Int × Unit) (fun s20 w6 k19 => match s20 with
        | (v18, _) =>
        pif (decide (v18 < (x17n : Int))) (
          ixA x17 x17n v18 1 fun p23 =>
          ldC w6 p23 fun x24 x24n x24c =>
          cl Try.prog 24 [.pointer (some (⟨b15, 0, none⟩ : Addr)), .slice x24 x24n x24c] w6 fun e26 w7 => e26 = Ending.returned (.tuple #[]) ∧
          k19 ((IntKind.wrap .i64 (v18 + 1)), ()) w7) (
          R (.tuple #[.pointer (some (⟨b15, 0, none⟩ : Addr)), .int .i64 0]) w6)) (0, ()) w5) ∧
    (
      ∃ (x29 : Option Addr) (x29n x29c : Nat), ∃ w8 : World, (Instr.makeSlice 61 (.int .i64 (IntKind.wrap .i64 (2 * x10))) (.int .i64 (IntKind.wrap .i64 (2 * x10)))).run Try.prog (World.drew w2) = .ok (.slice x29 x29n x29c) w8 ∧
      (
        ldI .i64 w8 ((⟨b2, 0, none⟩ : Addr).add 0) fun x30 =>
        ((.int .i64 x30 : Value) = .int .i64 x9)) ∧
      ∃ (x31 : Option Addr) (x31n x31c : Nat), ∃ w9 : World, (Instr.makeSlice 60 (.int .i64 (IntKind.wrap .i64 (x9 + 1))) (.int .i64 (IntKind.wrap .i64 (x9 + 1)))).run Try.prog w8 = .ok (.slice x31 x31n x31c) w9 ∧
      (
        ldI .i64 w9 ((⟨b2, 0, none⟩ : Addr).add 0) fun x32 =>
        ((.int .i64 x32 : Value) = .int .i64 x10)) ∧
      alc w9 [.slice x31 x31n x31c, .slice none 0 0, .slice none 0 0, .int .i64 0, .slice x29 x29n x29c, .slice none 0 0, .bool false, .bool false] 64 fun b33 w10 =>
      ldC w10 ((⟨b2, 0, none⟩ : Addr).add 1) fun x35 x35n x35c =>
      lp (σ := Int × Unit) (fun s38 w11 k37 => match s38 with
        | (v36, _) =>
        pif (decide (v36 < (x35n : Int))) (
          ixA x35 x35n v36 1 fun p41 =>
          ldC w11 p41 fun x42 x42n x42c =>
          cl Try.prog 24 [.pointer (some (⟨b33, 0, none⟩ : Addr)), .slice x42 x42n x42c] w11 fun e44 w12 => e44 = Ending.returned (.tuple #[]) ∧
          k37 ((IntKind.wrap .i64 (v36 + 1)), ()) w12) (
          R (.tuple #[.pointer (some (⟨b33, 0, none⟩ : Addr)), .int .i64 0]) w11)) (0, ()) w10))
def An7 : An := .seq (.leaf) (.seq (.seq (.leaf) (.cond (.seq (.leaf) (.leaf)) (.leaf))) (.seq (.draw [0, 1, 3, 7, 0, 16, 48, 112, 255, 511, 1023]) (.seq (.seq (.leaf) (.blk (.loop [(23, .one (.int .i64))] (.seq (.leaf) (.seq (.cond (.leaf) (.leaf)) (.seq (.blk (.seq (.leaf) (.leaf))) (.leaf))))))) (.seq (.leaf) (.leaf)))))
theorem V7_eq (a0_0 : Int) (a0_1 : Option Addr) (a0_1n : Nat) (a0_1c : Nat) (w : World) (R : Value → World → Prop) : evF Try.prog Try.f7 An7 [.agg #[.int .i64 a0_0, .slice a0_1 a0_1n a0_1c]] w R = V7 a0_0 a0_1 a0_1n a0_1c w R := by kernel_rfl
theorem V7_calls (a0_0 : Int) (a0_1 : Option Addr) (a0_1n : Nat) (a0_1c : Nat) (w : World) (R : Value → World → Prop) (h : V7 a0_0 a0_1 a0_1n a0_1c w R) : Calls Try.prog 7 #[.agg #[.int .i64 a0_0, .slice a0_1 a0_1n a0_1c]] w fun e w' => ∃ v, e = .returned v ∧ R v w' :=
  calls_of_ev (args := [.agg #[.int .i64 a0_0, .slice a0_1 a0_1n a0_1c]]) Try.func7 (Nat.le_of_ble_eq_true (by kernel_rfl)) (by rw [V7_eq]; exact h)
theorem ok7 : fnOk Try.prog 7 = true := by kernel_rfl

/-! (*depot/watch.Watch).Assume -/
def V8 (a0 : Option Addr) (a1 : Int) (w : World) (R : Value → World → Prop) : Prop :=
  alc w [.int .i64 a1] 3 fun b3 w1 =>
  cl Try.prog 25 [.pointer a0, .slice (some (⟨b3, 0, none⟩ : Addr)) 1 1] w1 fun e5 w2 => ∃ x4 : Bool, e5 = Ending.returned (.bool x4) ∧
  pif (!x4) (
    R (.int .i64 1) w2) (
    nn a0 fun p8 =>
    ldB w2 (p8.add 6) fun x9 =>
    pif (!x9) (
      R (.int .i64 3) w2) (
      cl Try.prog 26 [.pointer a0, .int .i64 a1] w2 fun e13 w3 => ∃ x12 : Int, e13 = Ending.returned (.int .i8 x12) ∧
      pif (x12 != 0) (
        R (.int .i64 50) w3) (
        nn a0 fun p15 =>
        ldC (World.drew w3) (p15.add 2) fun x16 x16n x16c =>
        nn a0 fun p17 =>
        ldC (World.drew w3) (p17.add 1) fun x18 x18n x18c =>
        alc (World.drew w3) [.int .i64 (x18n : Int)] 3 fun b19 w4 =>
        (
          ldC w4 (p15.add 2) fun x20 x20n x20c =>
          ((.slice x20 x20n x20c : Value) = .slice x16 x16n x16c)) ∧
        ∃ (x21 : Option Addr) (x21n x21c : Nat), ∃ w5 : World, (Builtin.append_ #[29, 29] 29 #[.slice x16 x16n x16c, .slice (some (⟨b19, 0, none⟩ : Addr)) 1 1]).run Try.prog w4 = .ok (.slice x21 x21n x21c) w5 ∧
        nn a0 fun p22 =>
        st w5 ((p22.add 2).add 0) (.slice x21 x21n x21c) fun w6 =>
        cl Try.prog 27 [.pointer a0, .int .i64 a1] w6 fun e24 w7 => e24 = Ending.returned (.tuple #[]) ∧
        nn a0 fun p26 =>
        st w7 ((p26.add 6).add 0) (.bool false) fun w8 =>
        R (.int .i64 0) w8)))
def An8 : An := .seq (.leaf) (.seq (.blk (.seq (.leaf) (.cond (.seq (.leaf) (.leaf)) (.seq (.leaf) (.cond (.seq (.leaf) (.leaf)) (.seq (.leaf) (.cond (.seq (.leaf) (.leaf)) (.leaf)))))))) (.seq (.draw [0, 0, 2, 6, 14, 0, 32, 96, 224, 480, 992, 2046, 4095, 8191, 16383]) (.seq (.leaf) (.seq (.leaf) (.seq (.leaf) (.leaf))))))
theorem V8_eq (a0 : Option Addr) (a1 : Int) (w : World) (R : Value → World → Prop) : evF Try.prog Try.f8 An8 [.pointer a0, .int .i64 a1] w R = V8 a0 a1 w R := by kernel_rfl
theorem V8_calls (a0 : Option Addr) (a1 : Int) (w : World) (R : Value → World → Prop) (h : V8 a0 a1 w R) : Calls Try.prog 8 #[.pointer a0, .int .i64 a1] w fun e w' => ∃ v, e = .returned v ∧ R v w' :=
  calls_of_ev (args := [.pointer a0, .int .i64 a1]) Try.func8 (Nat.le_of_ble_eq_true (by kernel_rfl)) (by rw [V8_eq]; exact h)
theorem ok8 : fnOk Try.prog 8 = true := by kernel_rfl

/-! (*depot/watch.Watch).Undo -/
def V9 (a0 : Option Addr) (w : World) (R : Value → World → Prop) : Prop :=
  nn a0 fun p3 =>
  ldC w (p3.add 2) fun x4 x4n x4c =>
  pif (decide ((IntKind.wrap .i64 ((x4n : Int) - 1)) < 0)) (
    R (.int .i64 3) w) (
    nn a0 fun p8 =>
    ldC w (p8.add 2) fun x9 x9n x9c =>
    ixA x9 x9n (IntKind.wrap .i64 ((x4n : Int) - 1)) 1 fun p10 =>
    ldI .i64 w p10 fun x11 =>
    cl Try.prog 28 [.pointer a0, .int .i64 x11] w fun e12 w1 => e12 = Ending.returned (.tuple #[]) ∧
    nn a0 fun p14 =>
    ldC w1 (p14.add 2) fun x15 x15n x15c =>
    (0 : Int) ≤ (IntKind.wrap .i64 ((x4n : Int) - 1)) ∧ (IntKind.wrap .i64 ((x4n : Int) - 1)) ≤ (x15c : Int) ∧
    nn a0 fun p16 =>
    st w1 ((p16.add 2).add 0) (.slice (slA x15 x15c 0 1) ((Int.toNat (IntKind.wrap .i64 ((x4n : Int) - 1))) - 0) (x15c - 0)) fun w2 =>
    nn a0 fun p18 =>
    st w2 ((p18.add 6).add 0) (.bool false) fun w3 =>
    R (.int .i64 0) w3)
def An9 : An := .seq (.leaf) (.seq (.leaf) (.seq (.seq (.leaf) (.cond (.seq (.leaf) (.leaf)) (.leaf))) (.seq (.leaf) (.seq (.leaf) (.seq (.leaf) (.seq (.leaf) (.leaf)))))))
theorem V9_eq (a0 : Option Addr) (w : World) (R : Value → World → Prop) : evF Try.prog Try.f9 An9 [.pointer a0] w R = V9 a0 w R := by kernel_rfl
theorem V9_calls (a0 : Option Addr) (w : World) (R : Value → World → Prop) (h : V9 a0 w R) : Calls Try.prog 9 #[.pointer a0] w fun e w' => ∃ v, e = .returned v ∧ R v w' :=
  calls_of_ev (args := [.pointer a0]) Try.func9 (Nat.le_of_ble_eq_true (by kernel_rfl)) (by rw [V9_eq]; exact h)
theorem ok9 : fnOk Try.prog 9 = true := by kernel_rfl

/-! (*depot/watch.Watch).Run -/
def V10 (a0 : Option Addr) (w : World) (R : Value → World → Prop) : Prop :=
  nn a0 fun p2 =>
  ldC (World.drew w) (p2.add 1) fun x3 x3n x3c =>
  nn a0 fun p4 =>
  ldI .i64 (World.drew w) (p4.add 3) fun x5 =>
  cl Try.prog 29 [.pointer a0] (World.drew w) fun e8 w1 => ∃ x7 : Bool, e8 = Ending.returned (.bool x7) ∧
  jn (σ := Unit) (fun k9 =>
    pif (!x7) (
      cl Try.prog 28 [.pointer a0, .int .i64 (x3n : Int)] w1 fun e13 w3 => e13 = Ending.returned (.tuple #[]) ∧
      nn a0 fun p15 =>
      st w3 ((p15.add 3).add 0) (.int .i64 x5) fun w4 =>
      k9 (()) w4) (
      k9 (()) w1)) fun s10 w2 => match s10 with
  | (_) =>
  jn (σ := Unit) (fun k16 =>
    gd (α := Int) x7 (fun k19 =>
      cl Try.prog 14 [.pointer a0] w2 fun e21 w6 => ∃ x20 : Int, e21 = Ending.returned (.int .i64 x20) ∧
      k19 x20 w6) 0 w2 fun x22 w7 =>
    pif (cond x7 (x22 == 0) false) (
      cl Try.prog 30 [.pointer a0] w7 fun e24 w8 => e24 = Ending.returned (.tuple #[]) ∧
      k16 (()) w8) (
      k16 (()) w7)) fun s17 w5 => match s17 with
  | (_) =>
  nn a0 fun p26 =>
  st w5 ((p26.add 6).add 0) (.bool x7) fun w9 =>
  nn a0 fun p27 =>
  st w9 ((p27.add 7).add 0) (.bool (!x7)) fun w10 =>
  R (.bool x7) w10
def An10 : An := .seq (.leaf) (.seq (.draw [0, 1, 3, 7, 15, 0, 32, 96, 224, 31, 1023]) (.seq (.leaf) (.seq (.join [] (.seq (.leaf) (.cond (.seq (.leaf) (.leaf)) (.leaf)))) (.seq (.join [] (.seq (.leaf) (.cond (.leaf) (.leaf)))) (.seq (.leaf) (.seq (.leaf) (.leaf)))))))
theorem V10_eq (a0 : Option Addr) (w : World) (R : Value → World → Prop) : evF Try.prog Try.f10 An10 [.pointer a0] w R = V10 a0 w R := by kernel_rfl
theorem V10_calls (a0 : Option Addr) (w : World) (R : Value → World → Prop) (h : V10 a0 w R) : Calls Try.prog 10 #[.pointer a0] w fun e w' => ∃ v, e = .returned v ∧ R v w' :=
  calls_of_ev (args := [.pointer a0]) Try.func10 (Nat.le_of_ble_eq_true (by kernel_rfl)) (by rw [V10_eq]; exact h)
theorem ok10 : fnOk Try.prog 10 = true := by kernel_rfl

/-! (*depot/watch.Watch).Add -/
def V12 (a0 : Option Addr) (a1 : Option Addr) (a1n : Nat) (a1c : Nat) (w : World) (R : Value → World → Prop) : Prop :=
  cl Try.prog 25 [.pointer a0, .slice a1 a1n a1c] w fun e4 w1 => ∃ x3 : Bool, e4 = Ending.returned (.bool x3) ∧
  pif (!x3) (
    R (.int .i64 1) w1) (
    cl Try.prog 24 [.pointer a0, .slice a1 a1n a1c] w1 fun e7 w2 => e7 = Ending.returned (.tuple #[]) ∧
    nn a0 fun p9 =>
    st w2 ((p9.add 6).add 0) (.bool false) fun w3 =>
    R (.int .i64 0) w3)
def An12 : An := .seq (.leaf) (.seq (.seq (.leaf) (.cond (.seq (.leaf) (.leaf)) (.leaf))) (.seq (.leaf) (.seq (.leaf) (.seq (.leaf) (.leaf)))))
theorem V12_eq (a0 : Option Addr) (a1 : Option Addr) (a1n : Nat) (a1c : Nat) (w : World) (R : Value → World → Prop) : evF Try.prog Try.f12 An12 [.pointer a0, .slice a1 a1n a1c] w R = V12 a0 a1 a1n a1c w R := by kernel_rfl
theorem V12_calls (a0 : Option Addr) (a1 : Option Addr) (a1n : Nat) (a1c : Nat) (w : World) (R : Value → World → Prop) (h : V12 a0 a1 a1n a1c w R) : Calls Try.prog 12 #[.pointer a0, .slice a1 a1n a1c] w fun e w' => ∃ v, e = .returned v ∧ R v w' :=
  calls_of_ev (args := [.pointer a0, .slice a1 a1n a1c]) Try.func12 (Nat.le_of_ble_eq_true (by kernel_rfl)) (by rw [V12_eq]; exact h)
theorem ok12 : fnOk Try.prog 12 = true := by kernel_rfl

/-! (*depot/watch.Watch).Depth -/
def V14 (a0 : Option Addr) (w : World) (R : Value → World → Prop) : Prop :=
  nn a0 fun p3 =>
  ldC w (p3.add 2) fun x4 x4n x4c =>
  R (.int .i64 (x4n : Int)) w
def An14 : An := .seq (.leaf) (.seq (.leaf) (.leaf))
theorem V14_eq (a0 : Option Addr) (w : World) (R : Value → World → Prop) : evF Try.prog Try.f14 An14 [.pointer a0] w R = V14 a0 w R := by kernel_rfl
theorem V14_calls (a0 : Option Addr) (w : World) (R : Value → World → Prop) (h : V14 a0 w R) : Calls Try.prog 14 #[.pointer a0] w fun e w' => ∃ v, e = .returned v ∧ R v w' :=
  calls_of_ev (args := [.pointer a0]) Try.func14 (Nat.le_of_ble_eq_true (by kernel_rfl)) (by rw [V14_eq]; exact h)
theorem ok14 : fnOk Try.prog 14 = true := by kernel_rfl

/-! depot/depotlaw07.assumed -/
def V15 (a0 : Option Addr) (a1 : Option Addr) (a1n : Nat) (a1c : Nat) (w : World) (R : Value → World → Prop) : Prop :=
  cl Try.prog 10 [.pointer a0] w fun e4 w1 => ∃ x3 : Bool, e4 = Ending.returned (.bool x3) ∧
  lp (σ := Bool × Int × Unit) (fun s9 w2 k8 => match s9 with
    | (v6, v7, _) =>
    pif (cond (decide (v7 < (a1n : Int))) v6 false) (
      ixA a1 a1n v7 1 fun p12 =>
      ldI .i64 w2 p12 fun x13 =>
      cl Try.prog 8 [.pointer a0, .int .i64 x13] w2 fun e15 w3 => ∃ x14 : Int, e15 = Ending.returned (.int .i64 x14) ∧
      cl Try.prog 10 [.pointer a0] w3 fun e18 w4 => ∃ x17 : Bool, e18 = Ending.returned (.bool x17) ∧
      k8 (x17, (IntKind.wrap .i64 (v7 + 1)), ()) w4) (
      pif (!v6) (
        R (.tuple #[.bool false, .slice none 0 0]) w2) (
        cl Try.prog 21 [.pointer a0] w2 fun e24 w5 => ∃ (x23 : Option Addr) (x23n x23c : Nat), e24 = Ending.returned (.slice x23 x23n x23c) ∧
        R (.tuple #[.bool true, .slice x23 x23n x23c]) w5))) (x3, 0, ()) w1
def An15 : An := .seq (.leaf) (.seq (.leaf) (.seq (.seq (.leaf) (.blk (.loop [(6, .one (.bool)), (7, .one (.int .i64))] (.seq (.seq (.leaf) (.cond (.leaf) (.leaf))) (.seq (.blk (.seq (.leaf) (.leaf))) (.leaf)))))) (.seq (.seq (.leaf) (.cond (.seq (.leaf) (.leaf)) (.leaf))) (.seq (.leaf) (.leaf)))))
theorem V15_eq (a0 : Option Addr) (a1 : Option Addr) (a1n : Nat) (a1c : Nat) (w : World) (R : Value → World → Prop) : evF Try.prog Try.f15 An15 [.pointer a0, .slice a1 a1n a1c] w R = V15 a0 a1 a1n a1c w R := by kernel_rfl
theorem V15_calls (a0 : Option Addr) (a1 : Option Addr) (a1n : Nat) (a1c : Nat) (w : World) (R : Value → World → Prop) (h : V15 a0 a1 a1n a1c w R) : Calls Try.prog 15 #[.pointer a0, .slice a1 a1n a1c] w fun e w' => ∃ v, e = .returned v ∧ R v w' :=
  calls_of_ev (args := [.pointer a0, .slice a1 a1n a1c]) Try.func15 (Nat.le_of_ble_eq_true (by kernel_rfl)) (by rw [V15_eq]; exact h)
theorem ok15 : fnOk Try.prog 15 = true := by kernel_rfl

/-! depot/depotlaw07.made -/
def V17 (a0_0 : Int) (a0_1 : Option Addr) (a0_1n : Nat) (a0_1c : Nat) (w : World) (R : Value → World → Prop) : Prop :=
  alc w [.int .i64 a0_0, .slice a0_1 a0_1n a0_1c] 28 fun b2 w1 =>
  alc w1 [.pointer none, .pointer none] 46 fun b3 w2 =>
  ldI .i64 w2 ((⟨b2, 0, none⟩ : Addr).add 0) fun x5 =>
  ldC w2 ((⟨b2, 0, none⟩ : Addr).add 1) fun x6 x6n x6c =>
  cl Try.prog 11 [.agg #[.int .i64 x5, .slice x6 x6n x6c]] w2 fun e9 w3 => ∃ x7 : Int, ∃ (x8 : Option Addr) (x8n x8c : Nat), e9 = Ending.returned (.agg #[.int .i64 x7, .slice x8 x8n x8c]) ∧
  cl Try.prog 7 [.agg #[.int .i64 x7, .slice x8 x8n x8c]] w3 fun e12 w4 => ∃ x10 : Option Addr, ∃ x11 : Int, e12 = Ending.returned (.tuple #[.pointer x10, .int .i64 x11]) ∧
  ldI .i64 w4 ((⟨b2, 0, none⟩ : Addr).add 0) fun x14 =>
  ldC w4 ((⟨b2, 0, none⟩ : Addr).add 1) fun x15 x15n x15c =>
  cl Try.prog 32 [.agg #[.int .i64 x14, .slice x15 x15n x15c]] w4 fun e18 w5 => ∃ x16 : Option Addr, ∃ x17 : Int, e18 = Ending.returned (.tuple #[.pointer x16, .int .i64 x17]) ∧
  pif (cond (x11 != x17) true (!((Option.isNone x10) == (Option.isNone x16)))) (
    st w5 ((⟨b3, 0, none⟩ : Addr).add 0) (.pointer none) fun w6 =>
    st w6 ((⟨b3, 0, none⟩ : Addr).add 1) (.pointer none) fun w7 =>
    ldP w7 ((⟨b3, 0, none⟩ : Addr).add 0) fun x21 =>
    ldP w7 ((⟨b3, 0, none⟩ : Addr).add 1) fun x22 =>
    R (.tuple #[.agg #[.pointer x21, .pointer x22], .bool false]) w7) (
    st w5 ((⟨b3, 0, none⟩ : Addr).add 0) (.pointer x10) fun w8 =>
    st w8 ((⟨b3, 0, none⟩ : Addr).add 1) (.pointer x16) fun w9 =>
    ldP w9 ((⟨b3, 0, none⟩ : Addr).add 0) fun x24 =>
    ldP w9 ((⟨b3, 0, none⟩ : Addr).add 1) fun x25 =>
    R (.tuple #[.agg #[.pointer x24, .pointer x25], .bool true]) w9)
def An17 : An := .seq (.leaf) (.seq (.leaf) (.seq (.leaf) (.seq (.seq (.leaf) (.cond (.seq (.leaf) (.leaf)) (.leaf))) (.seq (.leaf) (.leaf)))))
theorem V17_eq (a0_0 : Int) (a0_1 : Option Addr) (a0_1n : Nat) (a0_1c : Nat) (w : World) (R : Value → World → Prop) : evF Try.prog Try.f17 An17 [.agg #[.int .i64 a0_0, .slice a0_1 a0_1n a0_1c]] w R = V17 a0_0 a0_1 a0_1n a0_1c w R := by kernel_rfl
theorem V17_calls (a0_0 : Int) (a0_1 : Option Addr) (a0_1n : Nat) (a0_1c : Nat) (w : World) (R : Value → World → Prop) (h : V17 a0_0 a0_1 a0_1n a0_1c w R) : Calls Try.prog 17 #[.agg #[.int .i64 a0_0, .slice a0_1 a0_1n a0_1c]] w fun e w' => ∃ v, e = .returned v ∧ R v w' :=
  calls_of_ev (args := [.agg #[.int .i64 a0_0, .slice a0_1 a0_1n a0_1c]]) Try.func17 (Nat.le_of_ble_eq_true (by kernel_rfl)) (by rw [V17_eq]; exact h)
theorem ok17 : fnOk Try.prog 17 = true := by kernel_rfl

/-! (*depot/depotlaw07.pair).plays -/
def V18 (a0 : Option Addr) (a1_0 : Int) (a1_1 : Int) (a1_2 : Int) (a1_3 : Option Addr) (a1_3n : Nat) (a1_3c : Nat) (w : World) (R : Value → World → Prop) : Prop :=
  alc w [.int .i64 a1_0, .int .i64 a1_1, .int .i64 a1_2, .slice a1_3 a1_3n a1_3c] 51 fun b2 w1 =>
  ldI .i64 w1 ((⟨b2, 0, none⟩ : Addr).add 0) fun x4 =>
  pif (x4 == 1) (
    nn a0 fun p6 =>
    ldP (World.drew w1) (p6.add 0) fun x7 =>
    ldC (World.drew w1) ((⟨b2, 0, none⟩ : Addr).add 3) fun x8 x8n x8c =>
    cl Try.prog 13 [.slice x8 x8n x8c] (World.drew w1) fun e10 w2 => ∃ (x9 : Option Addr) (x9n x9c : Nat), e10 = Ending.returned (.slice x9 x9n x9c) ∧
    (
      ldP w2 (p6.add 0) fun x11 =>
      ((.pointer x11 : Value) = .pointer x7)) ∧
    cl Try.prog 12 [.pointer x7, .slice x9 x9n x9c] w2 fun e13 w3 => ∃ x12 : Int, e13 = Ending.returned (.int .i64 x12) ∧
    nn a0 fun p14 =>
    ldP (World.drew w3) (p14.add 1) fun x15 =>
    ldC (World.drew w3) ((⟨b2, 0, none⟩ : Addr).add 3) fun x16 x16n x16c =>
    cl Try.prog 33 [.pointer x15, .slice x16 x16n x16c] (World.drew w3) fun e18 w4 => ∃ x17 : Int, e18 = Ending.returned (.int .i64 x17) ∧
    R (.bool (x12 == x17)) w4) (
    pif (x4 == 2) (
      nn a0 fun p20 =>
      ldP (World.drew w1) (p20.add 0) fun x21 =>
      ldI .i64 (World.drew w1) ((⟨b2, 0, none⟩ : Addr).add 2) fun x22 =>
      cl Try.prog 8 [.pointer x21, .int .i64 x22] (World.drew w1) fun e24 w5 => ∃ x23 : Int, e24 = Ending.returned (.int .i64 x23) ∧
      nn a0 fun p25 =>
      ldP (World.drew w5) (p25.add 1) fun x26 =>
      ldI .i64 (World.drew w5) ((⟨b2, 0, none⟩ : Addr).add 2) fun x27 =>
      cl Try.prog 34 [.pointer x26, .int .i64 x27] (World.drew w5) fun e29 w6 => ∃ x28 : Int, e29 = Ending.returned (.int .i64 x28) ∧
      R (.bool (x23 == x28)) w6) (
      pif (x4 == 3) (
        nn a0 fun p32 =>
        ldP w1 (p32.add 0) fun x33 =>
        cl Try.prog 10 [.pointer x33] w1 fun e35 w7 => ∃ x34 : Bool, e35 = Ending.returned (.bool x34) ∧
        nn a0 fun p37 =>
        ldP w7 (p37.add 1) fun x38 =>
        cl Try.prog 35 [.pointer x38] w7 fun e40 w8 => ∃ x39 : Bool, e40 = Ending.returned (.bool x39) ∧
        R (.bool (x34 == x39)) w8) (
        pif (x4 == 4) (
          nn a0 fun p43 =>
          ldP w1 (p43.add 0) fun x44 =>
          cl Try.prog 9 [.pointer x44] w1 fun e46 w9 => ∃ x45 : Int, e46 = Ending.returned (.int .i64 x45) ∧
          nn a0 fun p48 =>
          ldP w9 (p48.add 1) fun x49 =>
          cl Try.prog 36 [.pointer x49] w9 fun e51 w10 => ∃ x50 : Int, e51 = Ending.returned (.int .i64 x50) ∧
          R (.bool (x45 == x50)) w10) (
          pif (x4 == 5) (
            nn a0 fun p54 =>
            ldP w1 (p54.add 0) fun x55 =>
            cl Try.prog 21 [.pointer x55] w1 fun e57 w11 => ∃ (x56 : Option Addr) (x56n x56c : Nat), e57 = Ending.returned (.slice x56 x56n x56c) ∧
            nn a0 fun p59 =>
            ldP w11 (p59.add 1) fun x60 =>
            cl Try.prog 37 [.pointer x60] w11 fun e62 w12 => ∃ (x61 : Option Addr) (x61n x61c : Nat), e62 = Ending.returned (.slice x61 x61n x61c) ∧
            cl Try.prog 16 [.slice x56 x56n x56c, .slice x61 x61n x61c] w12 fun e64 w13 => ∃ x63 : Bool, e64 = Ending.returned (.bool x63) ∧
            R (.bool x63) w13) (
            pif (x4 == 6) (
              nn a0 fun p67 =>
              ldP w1 (p67.add 0) fun x68 =>
              cl Try.prog 14 [.pointer x68] w1 fun e70 w14 => ∃ x69 : Int, e70 = Ending.returned (.int .i64 x69) ∧
              nn a0 fun p72 =>
              ldP w14 (p72.add 0) fun x73 =>
              cl Try.prog 22 [.pointer x73] w14 fun e75 w15 => ∃ x74 : Bool, e75 = Ending.returned (.bool x74) ∧
              nn a0 fun p77 =>
              ldP w15 (p77.add 1) fun x78 =>
              cl Try.prog 38 [.pointer x78] w15 fun e80 w16 => ∃ x79 : Int, e80 = Ending.returned (.int .i64 x79) ∧
              gd (α := Addr) (x69 == x79) (fun k81 =>
                nn a0 fun p82 =>
                k81 p82 w16) ⟨0, 0, none⟩ w16 fun x83 w17 =>
              gd (α := (Option Addr)) (x69 == x79) (fun k84 =>
                ldP w17 (x83.add 1) fun x85 =>
                k84 x85 w17) none w17 fun x86 w18 =>
              gd (α := Bool) (x69 == x79) (fun k87 =>
                cl Try.prog 39 [.pointer x86] w18 fun e89 w19 => ∃ x88 : Bool, e89 = Ending.returned (.bool x88) ∧
                k87 x88 w19) false w18 fun x90 w20 =>
              R (.bool (cond (x69 == x79) (x74 == x90) false)) w20) (
              R (.bool true) w1))))))
def An18 : An := .seq (.leaf) (.seq (.seq (.leaf) (.blk (.seq (.leaf) (.cond (.seq (.draw [0, 1, 3, 7, 0, 16, 48, 127, 255]) (.seq (.draw [0, 0, 2, 6, 14, 0, 32, 126, 255, 511]) (.leaf))) (.seq (.leaf) (.cond (.seq (.draw [0, 1, 3, 7, 0, 16, 63, 127]) (.seq (.draw [0, 0, 2, 6, 14, 0, 32, 126, 255, 511]) (.leaf))) (.seq (.leaf) (.cond (.seq (.leaf) (.seq (.leaf) (.leaf))) (.seq (.leaf) (.cond (.seq (.leaf) (.seq (.leaf) (.leaf))) (.seq (.leaf) (.cond (.seq (.leaf) (.seq (.leaf) (.leaf))) (.seq (.leaf) (.cond (.seq (.leaf) (.seq (.leaf) (.seq (.leaf) (.leaf)))) (.leaf))))))))))))))) (.seq (.leaf) (.leaf)))
theorem V18_eq (a0 : Option Addr) (a1_0 : Int) (a1_1 : Int) (a1_2 : Int) (a1_3 : Option Addr) (a1_3n : Nat) (a1_3c : Nat) (w : World) (R : Value → World → Prop) : evF Try.prog Try.f18 An18 [.pointer a0, .agg #[.int .i64 a1_0, .int .i64 a1_1, .int .i64 a1_2, .slice a1_3 a1_3n a1_3c]] w R = V18 a0 a1_0 a1_1 a1_2 a1_3 a1_3n a1_3c w R := by kernel_rfl
theorem V18_calls (a0 : Option Addr) (a1_0 : Int) (a1_1 : Int) (a1_2 : Int) (a1_3 : Option Addr) (a1_3n : Nat) (a1_3c : Nat) (w : World) (R : Value → World → Prop) (h : V18 a0 a1_0 a1_1 a1_2 a1_3 a1_3n a1_3c w R) : Calls Try.prog 18 #[.pointer a0, .agg #[.int .i64 a1_0, .int .i64 a1_1, .int .i64 a1_2, .slice a1_3 a1_3n a1_3c]] w fun e w' => ∃ v, e = .returned v ∧ R v w' :=
  calls_of_ev (args := [.pointer a0, .agg #[.int .i64 a1_0, .int .i64 a1_1, .int .i64 a1_2, .slice a1_3 a1_3n a1_3c]]) Try.func18 (Nat.le_of_ble_eq_true (by kernel_rfl)) (by rw [V18_eq]; exact h)
theorem ok18 : fnOk Try.prog 18 = true := by kernel_rfl

/-! depot/depotlaw07.holds -/
def V19 (a0 : Option Addr) (a0n : Nat) (a0c : Nat) (a1 : Option Addr) (a1n : Nat) (a1c : Nat) (w : World) (R : Value → World → Prop) : Prop :=
  lp (σ := Int × Unit) (fun s5 w1 k4 => match s5 with
    | (v3, _) =>
    pif (decide (v3 < (a1n : Int))) (
      ixA a1 a1n v3 1 fun p8 =>
      ldI .i64 w1 p8 fun x9 =>
      cl Try.prog 20 [.slice a0 a0n a0c, .int .i64 x9] w1 fun e11 w2 => ∃ x10 : Bool, e11 = Ending.returned (.bool x10) ∧
      pif x10 (
        R (.bool true) w2) (
        k4 ((IntKind.wrap .i64 (v3 + 1)), ()) w2)) (
      R (.bool false) w1)) (0, ()) w
def An19 : An := .seq (.leaf) (.seq (.seq (.leaf) (.blk (.loop [(5, .one (.int .i64))] (.seq (.seq (.leaf) (.cond (.leaf) (.leaf))) (.seq (.blk (.seq (.leaf) (.cond (.seq (.leaf) (.leaf)) (.leaf)))) (.leaf)))))) (.seq (.leaf) (.leaf)))
theorem V19_eq (a0 : Option Addr) (a0n : Nat) (a0c : Nat) (a1 : Option Addr) (a1n : Nat) (a1c : Nat) (w : World) (R : Value → World → Prop) : evF Try.prog Try.f19 An19 [.slice a0 a0n a0c, .slice a1 a1n a1c] w R = V19 a0 a0n a0c a1 a1n a1c w R := by kernel_rfl
theorem V19_calls (a0 : Option Addr) (a0n : Nat) (a0c : Nat) (a1 : Option Addr) (a1n : Nat) (a1c : Nat) (w : World) (R : Value → World → Prop) (h : V19 a0 a0n a0c a1 a1n a1c w R) : Calls Try.prog 19 #[.slice a0 a0n a0c, .slice a1 a1n a1c] w fun e w' => ∃ v, e = .returned v ∧ R v w' :=
  calls_of_ev (args := [.slice a0 a0n a0c, .slice a1 a1n a1c]) Try.func19 (Nat.le_of_ble_eq_true (by kernel_rfl)) (by rw [V19_eq]; exact h)
theorem ok19 : fnOk Try.prog 19 = true := by kernel_rfl

/-! depot/depotlaw07.truth -/
def V20 (a0 : Option Addr) (a0n : Nat) (a0c : Nat) (a1 : Int) (w : World) (R : Value → World → Prop) : Prop :=
  pif (decide (a1 < 0)) (
    gd (α := Addr) (!(decide (a1 < (IntKind.wrap .i64 (0 - (a0n : Int)))))) (fun k4 =>
      ixA a0 a0n (IntKind.wrap .i64 ((IntKind.wrap .i64 (0 - a1)) - 1)) 1 fun p5 =>
      k4 p5 w) ⟨0, 0, none⟩ w fun x6 w1 =>
    gd (α := Bool) (!(decide (a1 < (IntKind.wrap .i64 (0 - (a0n : Int)))))) (fun k7 =>
      ldB w1 x6 fun x8 =>
      k7 x8 w1) false w1 fun x9 w2 =>
    R (.bool (cond (decide (a1 < (IntKind.wrap .i64 (0 - (a0n : Int))))) true (!x9))) w2) (
    gd (α := Addr) (cond (decide (a1 > 0)) (decide (a1 ≤ (a0n : Int))) false) (fun k11 =>
      ixA a0 a0n (IntKind.wrap .i64 (a1 - 1)) 1 fun p12 =>
      k11 p12 w) ⟨0, 0, none⟩ w fun x13 w3 =>
    gd (α := Bool) (cond (decide (a1 > 0)) (decide (a1 ≤ (a0n : Int))) false) (fun k14 =>
      ldB w3 x13 fun x15 =>
      k14 x15 w3) false w3 fun x16 w4 =>
    R (.bool (cond (cond (decide (a1 > 0)) (decide (a1 ≤ (a0n : Int))) false) x16 false)) w4)
def An20 : An := .seq (.leaf) (.seq (.seq (.leaf) (.cond (.seq (.leaf) (.leaf)) (.leaf))) (.seq (.leaf) (.leaf)))
theorem V20_eq (a0 : Option Addr) (a0n : Nat) (a0c : Nat) (a1 : Int) (w : World) (R : Value → World → Prop) : evF Try.prog Try.f20 An20 [.slice a0 a0n a0c, .int .i64 a1] w R = V20 a0 a0n a0c a1 w R := by kernel_rfl
theorem V20_calls (a0 : Option Addr) (a0n : Nat) (a0c : Nat) (a1 : Int) (w : World) (R : Value → World → Prop) (h : V20 a0 a0n a0c a1 w R) : Calls Try.prog 20 #[.slice a0 a0n a0c, .int .i64 a1] w fun e w' => ∃ v, e = .returned v ∧ R v w' :=
  calls_of_ev (args := [.slice a0 a0n a0c, .int .i64 a1]) Try.func20 (Nat.le_of_ble_eq_true (by kernel_rfl)) (by rw [V20_eq]; exact h)
theorem ok20 : fnOk Try.prog 20 = true := by kernel_rfl

/-! (*depot/watch.Watch).Lits -/
def V21 (a0 : Option Addr) (w : World) (R : Value → World → Prop) : Prop :=
  nn a0 fun p3 =>
  ldC w (p3.add 1) fun x4 x4n x4c =>
  cl Try.prog 40 [.slice x4 x4n x4c] w fun e6 w1 => ∃ (x5 : Option Addr) (x5n x5c : Nat), e6 = Ending.returned (.slice x5 x5n x5c) ∧
  R (.slice x5 x5n x5c) w1
def An21 : An := .seq (.leaf) (.seq (.leaf) (.leaf))
theorem V21_eq (a0 : Option Addr) (w : World) (R : Value → World → Prop) : evF Try.prog Try.f21 An21 [.pointer a0] w R = V21 a0 w R := by kernel_rfl
theorem V21_calls (a0 : Option Addr) (w : World) (R : Value → World → Prop) (h : V21 a0 w R) : Calls Try.prog 21 #[.pointer a0] w fun e w' => ∃ v, e = .returned v ∧ R v w' :=
  calls_of_ev (args := [.pointer a0]) Try.func21 (Nat.le_of_ble_eq_true (by kernel_rfl)) (by rw [V21_eq]; exact h)
theorem ok21 : fnOk Try.prog 21 = true := by kernel_rfl

/-! (*depot/watch.Watch).Clashes -/
def V22 (a0 : Option Addr) (w : World) (R : Value → World → Prop) : Prop :=
  nn a0 fun p3 =>
  ldB w (p3.add 7) fun x4 =>
  R (.bool x4) w
def An22 : An := .seq (.leaf) (.seq (.leaf) (.leaf))
theorem V22_eq (a0 : Option Addr) (w : World) (R : Value → World → Prop) : evF Try.prog Try.f22 An22 [.pointer a0] w R = V22 a0 w R := by kernel_rfl
theorem V22_calls (a0 : Option Addr) (w : World) (R : Value → World → Prop) (h : V22 a0 w R) : Calls Try.prog 22 #[.pointer a0] w fun e w' => ∃ v, e = .returned v ∧ R v w' :=
  calls_of_ev (args := [.pointer a0]) Try.func22 (Nat.le_of_ble_eq_true (by kernel_rfl)) (by rw [V22_eq]; exact h)
theorem ok22 : fnOk Try.prog 22 = true := by kernel_rfl

/-! depot/cnf.Formed -/
def V23 (a0_0 : Int) (a0_1 : Option Addr) (a0_1n : Nat) (a0_1c : Nat) (w : World) (R : Value → World → Prop) : Prop :=
  alc w [.int .i64 a0_0, .slice a0_1 a0_1n a0_1c] 28 fun b2 w1 =>
  ldI .i64 w1 ((⟨b2, 0, none⟩ : Addr).add 0) fun x4 =>
  gd (α := Int) (!(decide (x4 < 0))) (fun k5 =>
    ldI .i64 w1 ((⟨b2, 0, none⟩ : Addr).add 0) fun x6 =>
    k5 x6 w1) 0 w1 fun x7 w2 =>
  pif (cond (decide (x4 < 0)) true (decide (x7 > 1048576))) (
    R (.bool false) w2) (
    ldC w2 ((⟨b2, 0, none⟩ : Addr).add 1) fun x10 x10n x10c =>
    lp (σ := Int × Unit) (fun s13 w3 k12 => match s13 with
      | (v11, _) =>
      pif (decide (v11 < (x10n : Int))) (
        ixA x10 x10n v11 1 fun p16 =>
        ldC w3 p16 fun x17 x17n x17c =>
        ldI .i64 w3 ((⟨b2, 0, none⟩ : Addr).add 0) fun x19 =>
        cl Try.prog 41 [.slice x17 x17n x17c, .int .i64 x19] w3 fun e21 w4 => ∃ x20 : Bool, e21 = Ending.returned (.bool x20) ∧
        pif (!x20) (
          R (.bool false) w4) (
          k12 ((IntKind.wrap .i64 (v11 + 1)), ()) w4)) (
        R (.bool true) w3)) (0, ()) w2)
def An23 : An := .seq (.leaf) (.seq (.seq (.leaf) (.cond (.seq (.leaf) (.leaf)) (.leaf))) (.seq (.seq (.leaf) (.blk (.loop [(16, .one (.int .i64))] (.seq (.leaf) (.seq (.cond (.leaf) (.leaf)) (.seq (.blk (.seq (.leaf) (.seq (.leaf) (.cond (.seq (.leaf) (.leaf)) (.leaf))))) (.leaf))))))) (.seq (.leaf) (.leaf))))
theorem V23_eq (a0_0 : Int) (a0_1 : Option Addr) (a0_1n : Nat) (a0_1c : Nat) (w : World) (R : Value → World → Prop) : evF Try.prog Try.f23 An23 [.agg #[.int .i64 a0_0, .slice a0_1 a0_1n a0_1c]] w R = V23 a0_0 a0_1 a0_1n a0_1c w R := by kernel_rfl
theorem V23_calls (a0_0 : Int) (a0_1 : Option Addr) (a0_1n : Nat) (a0_1c : Nat) (w : World) (R : Value → World → Prop) (h : V23 a0_0 a0_1 a0_1n a0_1c w R) : Calls Try.prog 23 #[.agg #[.int .i64 a0_0, .slice a0_1 a0_1n a0_1c]] w fun e w' => ∃ v, e = .returned v ∧ R v w' :=
  calls_of_ev (args := [.agg #[.int .i64 a0_0, .slice a0_1 a0_1n a0_1c]]) Try.func23 (Nat.le_of_ble_eq_true (by kernel_rfl)) (by rw [V23_eq]; exact h)
theorem ok23 : fnOk Try.prog 23 = true := by kernel_rfl

/-! (*depot/watch.Watch).hold -/
def V24 (a0 : Option Addr) (a1 : Option Addr) (a1n : Nat) (a1c : Nat) (w : World) (R : Value → World → Prop) : Prop :=
  cl Try.prog 42 [.slice a1 a1n a1c] w fun e3 w1 => ∃ x2 : Bool, e3 = Ending.returned (.bool x2) ∧
  pif x2 (
    R (.tuple #[]) w1) (
    cl Try.prog 40 [.slice a1 a1n a1c] w1 fun e6 w2 => ∃ (x5 : Option Addr) (x5n x5c : Nat), e6 = Ending.returned (.slice x5 x5n x5c) ∧
    alc w2 [.slice x5 x5n x5c, .int .i64 0, .int .i64 0] 77 fun b7 w3 =>
    cl Try.prog 14 [.pointer a0] w3 fun e10 w4 => ∃ x9 : Int, e10 = Ending.returned (.int .i64 x9) ∧
    gd (α := Bool) (!(decide (x9 > 0))) (fun k11 =>
      cl Try.prog 43 [.pointer a0, .pointer (some (⟨b7, 0, none⟩ : Addr))] w4 fun e13 w5 => ∃ x12 : Bool, e13 = Ending.returned (.bool x12) ∧
      k11 x12 w5) false w4 fun x14 w6 =>
    pif (cond (decide (x9 > 0)) true (!x14)) (
      nn a0 fun p16 =>
      ldC w6 (p16.add 5) fun x17 x17n x17c =>
      alc w6 [.pointer (some (⟨b7, 0, none⟩ : Addr))] 74 fun b18 w7 =>
      ∃ (x19 : Option Addr) (x19n x19c : Nat), ∃ w8 : World, (Builtin.append_ #[62, 62] 62 #[.slice x17 x17n x17c, .slice (some (⟨b18, 0, none⟩ : Addr)) 1 1]).run Try.prog w7 = .ok (.slice x19 x19n x19c) w8 ∧
      nn a0 fun p20 =>
      st w8 ((p20.add 5).add 0) (.slice x19 x19n x19c) fun w9 =>
      R (.tuple #[]) w9) (
      R (.tuple #[]) w6))
def An24 : An := .seq (.seq (.leaf) (.cond (.leaf) (.leaf))) (.seq (.leaf) (.seq (.leaf) (.cond (.leaf) (.leaf))))
theorem V24_eq (a0 : Option Addr) (a1 : Option Addr) (a1n : Nat) (a1c : Nat) (w : World) (R : Value → World → Prop) : evF Try.prog Try.f24 An24 [.pointer a0, .slice a1 a1n a1c] w R = V24 a0 a1 a1n a1c w R := by kernel_rfl
theorem V24_calls (a0 : Option Addr) (a1 : Option Addr) (a1n : Nat) (a1c : Nat) (w : World) (R : Value → World → Prop) (h : V24 a0 a1 a1n a1c w R) : Calls Try.prog 24 #[.pointer a0, .slice a1 a1n a1c] w fun e w' => ∃ v, e = .returned v ∧ R v w' :=
  calls_of_ev (args := [.pointer a0, .slice a1 a1n a1c]) Try.func24 (Nat.le_of_ble_eq_true (by kernel_rfl)) (by rw [V24_eq]; exact h)
theorem ok24 : fnOk Try.prog 24 = true := by kernel_rfl

/-! (*depot/watch.Watch).within -/
def V25 (a0 : Option Addr) (a1 : Option Addr) (a1n : Nat) (a1c : Nat) (w : World) (R : Value → World → Prop) : Prop :=
  lp (σ := Int × Unit) (fun s5 w1 k4 => match s5 with
    | (v3, _) =>
    pif (decide (v3 < (a1n : Int))) (
      ixA a1 a1n v3 1 fun p8 =>
      ldI .i64 w1 p8 fun x9 =>
      cl Try.prog 44 [.int .i64 x9] (World.drew w1) fun e11 w2 => ∃ x10 : Bool, e11 = Ending.returned (.bool x10) ∧
      gd (α := Addr) (!(!x10)) (fun k12 =>
        nn a0 fun p13 =>
        k12 p13 w2) ⟨0, 0, none⟩ w2 fun x14 _ =>
      gd (α := (Option Addr × Nat × Nat)) (!(!x10)) (fun k15 =>
        ldC w2 (x14.add 0) fun x16 x16n x16c =>
        k15 (x16, x16n, x16c) w2) (none, 0, 0) w2 fun x17 _ =>
      gd (α := Int) (!(!x10)) (fun k18 =>
        cl Try.prog 45 [.int .i64 x9] w2 fun e20 w3 => ∃ x19 : Int, e20 = Ending.returned (.int .i64 x19) ∧
        k18 x19 w3) 0 w2 fun x21 w4 =>
      ((!(!x10)) = true →
        ldC w4 (x14.add 0) fun x22 x22n x22c =>
        ((.slice x22 x22n x22c : Value) = .slice x17.1 x17.2.1 x17.2.2)) ∧
      pif (cond (!x10) true (decide (x21 ≥ (x17.2.1 : Int)))) (
        R (.bool false) w4) (
        k4 ((IntKind.wrap .i64 (v3 + 1)), ()) w4)) (
      R (.bool true) w1)) (0, ()) w
def An25 : An := .seq (.leaf) (.seq (.seq (.leaf) (.blk (.loop [(9, .one (.int .i64))] (.seq (.leaf) (.seq (.cond (.leaf) (.leaf)) (.seq (.blk (.seq (.leaf) (.seq (.draw [0, 1, 3, 7, 15, 31, 15, 79, 207, 463, 975, 2047, 4095]) (.cond (.seq (.leaf) (.leaf)) (.leaf))))) (.leaf))))))) (.seq (.leaf) (.leaf)))
theorem V25_eq (a0 : Option Addr) (a1 : Option Addr) (a1n : Nat) (a1c : Nat) (w : World) (R : Value → World → Prop) : evF Try.prog Try.f25 An25 [.pointer a0, .slice a1 a1n a1c] w R = V25 a0 a1 a1n a1c w R := by kernel_rfl
theorem V25_calls (a0 : Option Addr) (a1 : Option Addr) (a1n : Nat) (a1c : Nat) (w : World) (R : Value → World → Prop) (h : V25 a0 a1 a1n a1c w R) : Calls Try.prog 25 #[.pointer a0, .slice a1 a1n a1c] w fun e w' => ∃ v, e = .returned v ∧ R v w' :=
  calls_of_ev (args := [.pointer a0, .slice a1 a1n a1c]) Try.func25 (Nat.le_of_ble_eq_true (by kernel_rfl)) (by rw [V25_eq]; exact h)
theorem ok25 : fnOk Try.prog 25 = true := by kernel_rfl

/-! (*depot/watch.Watch).of -/
def V26 (a0 : Option Addr) (a1 : Int) (w : World) (R : Value → World → Prop) : Prop :=
  pif (decide (a1 < 0)) (
    nn a0 fun p4 =>
    ldC w (p4.add 0) fun x5 x5n x5c =>
    ixA x5 x5n (IntKind.wrap .i64 (0 - a1)) 1 fun p6 =>
    ldI .i8 w p6 fun x7 =>
    R (.int .i8 (IntKind.wrap .i8 (0 - x7))) w) (
    nn a0 fun p9 =>
    ldC w (p9.add 0) fun x10 x10n x10c =>
    ixA x10 x10n a1 1 fun p11 =>
    ldI .i8 w p11 fun x12 =>
    R (.int .i8 x12) w)
def An26 : An := .seq (.leaf) (.seq (.seq (.leaf) (.cond (.seq (.leaf) (.leaf)) (.leaf))) (.seq (.leaf) (.leaf)))
theorem V26_eq (a0 : Option Addr) (a1 : Int) (w : World) (R : Value → World → Prop) : evF Try.prog Try.f26 An26 [.pointer a0, .int .i64 a1] w R = V26 a0 a1 w R := by kernel_rfl
theorem V26_calls (a0 : Option Addr) (a1 : Int) (w : World) (R : Value → World → Prop) (h : V26 a0 a1 w R) : Calls Try.prog 26 #[.pointer a0, .int .i64 a1] w fun e w' => ∃ v, e = .returned v ∧ R v w' :=
  calls_of_ev (args := [.pointer a0, .int .i64 a1]) Try.func26 (Nat.le_of_ble_eq_true (by kernel_rfl)) (by rw [V26_eq]; exact h)
theorem ok26 : fnOk Try.prog 26 = true := by kernel_rfl

/-! (*depot/watch.Watch).put -/
def V27 (a0 : Option Addr) (a1 : Int) (w : World) (R : Value → World → Prop) : Prop :=
  nn a0 fun p2 =>
  ldC w (p2.add 1) fun x3 x3n x3c =>
  alc w [.int .i64 a1] 3 fun b4 w1 =>
  ∃ (x5 : Option Addr) (x5n x5c : Nat), ∃ w2 : World, (Builtin.append_ #[29, 29] 29 #[.slice x3 x3n x3c, .slice (some (⟨b4, 0, none⟩ : Addr)) 1 1]).run Try.prog w1 = .ok (.slice x5 x5n x5c) w2 ∧
  nn a0 fun p6 =>
  st w2 ((p6.add 1).add 0) (.slice x5 x5n x5c) fun w3 =>
  pif (decide (a1 < 0)) (
    nn a0 fun p9 =>
    ldC w3 (p9.add 0) fun x10 x10n x10c =>
    ixA x10 x10n (IntKind.wrap .i64 (0 - a1)) 1 fun p11 =>
    st w3 (p11.add 0) (.int .i8 (-1)) fun w4 =>
    R (.tuple #[]) w4) (
    nn a0 fun p13 =>
    ldC w3 (p13.add 0) fun x14 x14n x14c =>
    ixA x14 x14n a1 1 fun p15 =>
    st w3 (p15.add 0) (.int .i8 1) fun w5 =>
    R (.tuple #[]) w5)
def An27 : An := .seq (.leaf) (.seq (.leaf) (.cond (.leaf) (.leaf)))
theorem V27_eq (a0 : Option Addr) (a1 : Int) (w : World) (R : Value → World → Prop) : evF Try.prog Try.f27 An27 [.pointer a0, .int .i64 a1] w R = V27 a0 a1 w R := by kernel_rfl
theorem V27_calls (a0 : Option Addr) (a1 : Int) (w : World) (R : Value → World → Prop) (h : V27 a0 a1 w R) : Calls Try.prog 27 #[.pointer a0, .int .i64 a1] w fun e w' => ∃ v, e = .returned v ∧ R v w' :=
  calls_of_ev (args := [.pointer a0, .int .i64 a1]) Try.func27 (Nat.le_of_ble_eq_true (by kernel_rfl)) (by rw [V27_eq]; exact h)
theorem ok27 : fnOk Try.prog 27 = true := by kernel_rfl

/-! (*depot/watch.Watch).cut -/
def V28 (a0 : Option Addr) (a1 : Int) (w : World) (R : Value → World → Prop) : Prop :=
  nn a0 fun p2 =>
  ldC w (p2.add 1) fun x3 x3n x3c =>
  (0 : Int) ≤ a1 ∧ a1 ≤ (x3n : Int) ∧
  lp (σ := Int × Unit) (fun s6 w1 k5 => match s6 with
    | (v4, _) =>
    pif (decide (v4 < (((x3n - (Int.toNat a1)) : Nat) : Int))) (
      ixA (slA x3 x3c (Int.toNat a1) 1) (x3n - (Int.toNat a1)) v4 1 fun p9 =>
      ldI .i64 w1 p9 fun x10 =>
      nn a0 fun p11 =>
      ldC (World.drew w1) (p11.add 0) fun x12 x12n x12c =>
      cl Try.prog 45 [.int .i64 x10] (World.drew w1) fun e14 w2 => ∃ x13 : Int, e14 = Ending.returned (.int .i64 x13) ∧
      (
        ldC w2 (p11.add 0) fun x15 x15n x15c =>
        ((.slice x15 x15n x15c : Value) = .slice x12 x12n x12c)) ∧
      ixA x12 x12n x13 1 fun p16 =>
      st w2 (p16.add 0) (.int .i8 0) fun w3 =>
      k5 ((IntKind.wrap .i64 (v4 + 1)), ()) w3) (
      nn a0 fun p19 =>
      ldC w1 (p19.add 1) fun x20 x20n x20c =>
      (0 : Int) ≤ a1 ∧ a1 ≤ (x20c : Int) ∧
      nn a0 fun p21 =>
      st w1 ((p21.add 1).add 0) (.slice (slA x20 x20c 0 1) ((Int.toNat a1) - 0) (x20c - 0)) fun w4 =>
      nn a0 fun p23 =>
      ldI .i64 w4 (p23.add 3) fun x24 =>
      nn a0 fun p25 =>
      st w4 ((p25.add 3).add 0) (.int .i64 (if a1 < x24 then a1 else x24)) fun w5 =>
      R (.tuple #[]) w5)) (0, ()) w
def An28 : An := .seq (.seq (.leaf) (.blk (.loop [(13, .one (.int .i64))] (.seq (.leaf) (.seq (.cond (.leaf) (.leaf)) (.seq (.blk (.seq (.leaf) (.draw [0, 1, 3, 7, 0, 16, 63, 127]))) (.leaf))))))) (.seq (.leaf) (.leaf))
theorem V28_eq (a0 : Option Addr) (a1 : Int) (w : World) (R : Value → World → Prop) : evF Try.prog Try.f28 An28 [.pointer a0, .int .i64 a1] w R = V28 a0 a1 w R := by kernel_rfl
theorem V28_calls (a0 : Option Addr) (a1 : Int) (w : World) (R : Value → World → Prop) (h : V28 a0 a1 w R) : Calls Try.prog 28 #[.pointer a0, .int .i64 a1] w fun e w' => ∃ v, e = .returned v ∧ R v w' :=
  calls_of_ev (args := [.pointer a0, .int .i64 a1]) Try.func28 (Nat.le_of_ble_eq_true (by kernel_rfl)) (by rw [V28_eq]; exact h)
theorem ok28 : fnOk Try.prog 28 = true := by kernel_rfl

/-! (*depot/watch.Watch).spread -/
def V29 (a0 : Option Addr) (w : World) (R : Value → World → Prop) : Prop :=
  lp (σ := Unit) (fun s3 w1 k2 => match s3 with
    | (_) =>
    lp (σ := Unit) (fun s5 w2 k4 => match s5 with
      | (_) =>
      nn a0 fun p6 =>
      ldI .i64 (World.drew w2) (p6.add 3) fun x7 =>
      nn a0 fun p8 =>
      ldC (World.drew w2) (p8.add 1) fun x9 x9n x9c =>
      pif (decide (x7 < (x9n : Int))) (
        nn a0 fun p10 =>
        ldC (World.drew (World.drew w2)) (p10.add 1) fun x11 x11n x11c =>
        nn a0 fun p12 =>
        ldI .i64 (World.drew (World.drew w2)) (p12.add 3) fun x13 =>
        ixA x11 x11n x13 1 fun p14 =>
        ldI .i64 (World.drew (World.drew w2)) p14 fun x15 =>
        nn a0 fun p17 =>
        ldI .i64 (World.drew (World.drew w2)) (p17.add 3) fun x18 =>
        nn a0 fun p19 =>
        st (World.drew (World.drew w2)) ((p19.add 3).add 0) (.int .i64 (IntKind.wrap .i64 (x18 + 1))) fun w3 =>
        cl Try.prog 46 [.pointer a0, .int .i64 (IntKind.wrap .i64 (0 - x15))] w3 fun e22 w4 => ∃ x21 : Bool, e22 = Ending.returned (.bool x21) ∧
        pif (!x21) (
          R (.bool false) w4) (
          k4 (()) w4)) (
        nn a0 fun p25 =>
        ldC (World.drew w2) (p25.add 1) fun x26 x26n x26c =>
        nn a0 fun p28 =>
        ldC (World.drew w2) (p28.add 5) fun x29 x29n x29c =>
        lp (σ := Int × Unit) (fun s32 w5 k31 => match s32 with
          | (v30, _) =>
          pif (decide (v30 < (x29n : Int))) (
            ixA x29 x29n v30 1 fun p35 =>
            ldP w5 p35 fun x36 =>
            cl Try.prog 47 [.pointer a0, .pointer x36] w5 fun e39 w6 => ∃ x38 : Bool, e39 = Ending.returned (.bool x38) ∧
            pif (!x38) (
              R (.bool false) w6) (
              k31 ((IntKind.wrap .i64 (v30 + 1)), ()) w6)) (
            nn a0 fun p43 =>
            ldC w5 (p43.add 1) fun x44 x44n x44c =>
            pif ((x44n : Int) == (x26n : Int)) (
              R (.bool true) w5) (
              k2 (()) w5))) (0, ()) (World.drew w2))) (()) w1) (()) w
def An29 : An := .seq (.leaf) (.blk (.loop [] (.blk (.seq (.blk (.loop [] (.seq (.seq (.draw [0, 1, 3, 7, 0, 16, 48, 112, 240, 511]) (.cond (.leaf) (.leaf))) (.blk (.seq (.draw [0, 1, 3, 7, 0, 16, 48, 112, 255, 511, 1023]) (.seq (.leaf) (.seq (.leaf) (.cond (.seq (.leaf) (.leaf)) (.leaf))))))))) (.seq (.leaf) (.seq (.seq (.leaf) (.blk (.loop [(49, .one (.int .i64))] (.seq (.leaf) (.seq (.cond (.leaf) (.leaf)) (.seq (.blk (.seq (.leaf) (.seq (.leaf) (.cond (.seq (.leaf) (.leaf)) (.leaf))))) (.leaf))))))) (.seq (.leaf) (.cond (.seq (.leaf) (.leaf)) (.leaf)))))))))
theorem V29_eq (a0 : Option Addr) (w : World) (R : Value → World → Prop) : evF Try.prog Try.f29 An29 [.pointer a0] w R = V29 a0 w R := by kernel_rfl
theorem V29_calls (a0 : Option Addr) (w : World) (R : Value → World → Prop) (h : V29 a0 w R) : Calls Try.prog 29 #[.pointer a0] w fun e w' => ∃ v, e = .returned v ∧ R v w' :=
  calls_of_ev (args := [.pointer a0]) Try.func29 (Nat.le_of_ble_eq_true (by kernel_rfl)) (by rw [V29_eq]; exact h)
theorem ok29 : fnOk Try.prog 29 = true := by kernel_rfl

/-! (*depot/watch.Watch).tighten -/
def V30 (a0 : Option Addr) (w : World) (R : Value → World → Prop) : Prop :=
  alc w [.pointer a0] 22 fun b2 w1 =>
  ldP w1 (⟨b2, 0, none⟩ : Addr) fun x4 =>
  nn x4 fun p5 =>
  ldC w1 (p5.add 5) fun x6 x6n x6c =>
  lp (σ := Int × Unit) (fun s9 w2 k8 => match s9 with
    | (v7, _) =>
    pif (decide (v7 < (x6n : Int))) (
      jn (σ := Unit) (fun k11 =>
        ixA x6 x6n v7 1 fun p14 =>
        ldP w2 p14 fun x15 =>
        nn x15 fun p17 =>
        ldC w2 (p17.add 0) fun x18 x18n x18c =>
        cl Try.prog 48 [.slice x18 x18n x18c, .func (.func 49) #[] #[.pointer (some (⟨b2, 0, none⟩ : Addr))]] w2 fun e20 w4 => ∃ x19 : Bool, e20 = Ending.returned (.bool x19) ∧
        pif (!x19) (
          ldP w4 (⟨b2, 0, none⟩ : Addr) fun x22 =>
          cl Try.prog 43 [.pointer x22, .pointer x15] w4 fun e24 w5 => ∃ x23 : Bool, e24 = Ending.returned (.bool x23) ∧
          k11 (()) w5) (
          k11 (()) w4)) fun s12 w3 => match s12 with
      | (_) =>
      k8 ((IntKind.wrap .i64 (v7 + 1)), ()) w3) (
      ldP w2 (⟨b2, 0, none⟩ : Addr) fun x27 =>
      nn x27 fun p28 =>
      st w2 ((p28.add 5).add 0) (.slice none 0 0) fun w6 =>
      R (.tuple #[]) w6)) (0, ()) w1
def An30 : An := .seq (.leaf) (.seq (.seq (.leaf) (.blk (.loop [(9, .one (.int .i64))] (.seq (.leaf) (.seq (.cond (.leaf) (.leaf)) (.seq (.join [] (.blk (.seq (.leaf) (.seq (.leaf) (.cond (.leaf) (.leaf)))))) (.leaf))))))) (.leaf))
theorem V30_eq (a0 : Option Addr) (w : World) (R : Value → World → Prop) : evF Try.prog Try.f30 An30 [.pointer a0] w R = V30 a0 w R := by kernel_rfl
theorem V30_calls (a0 : Option Addr) (w : World) (R : Value → World → Prop) (h : V30 a0 w R) : Calls Try.prog 30 #[.pointer a0] w fun e w' => ∃ v, e = .returned v ∧ R v w' :=
  calls_of_ev (args := [.pointer a0]) Try.func30 (Nat.le_of_ble_eq_true (by kernel_rfl)) (by rw [V30_eq]; exact h)
theorem ok30 : fnOk Try.prog 30 = true := by kernel_rfl

/-! depot/lits.Tidy -/
def V40 (a0 : Option Addr) (a0n : Nat) (a0c : Nat) (w : World) (R : Value → World → Prop) : Prop :=
  ∃ (x3 : Option Addr) (x3n x3c : Nat), ∃ w1 : World, (Instr.makeSlice 29 (.int .i64 0) (.int .i64 (a0n : Int))).run Try.prog w = .ok (.slice x3 x3n x3c) w1 ∧
  lp (σ := (Option Addr × Nat × Nat) × Int × Unit) (fun s8 w2 k7 => match s8 with
    | ((v5, v5n, v5c), v6, _) =>
    pif (decide (v6 < (a0n : Int))) (
      jn (σ := (Option Addr × Nat × Nat) × Unit) (fun k11 =>
        ixA a0 a0n v6 1 fun p14 =>
        ldI .i64 w2 p14 fun x15 =>
        cl Try.prog 44 [.int .i64 x15] w2 fun e18 w4 => ∃ x17 : Bool, e18 = Ending.returned (.bool x17) ∧
        pif x17 (
          alc w4 [.int .i64 x15] 3 fun b20 w5 =>
          ∃ (x21 : Option Addr) (x21n x21c : Nat), ∃ w6 : World, (Builtin.append_ #[29, 29] 29 #[.slice v5 v5n v5c, .slice (some (⟨b20, 0, none⟩ : Addr)) 1 1]).run Try.prog w5 = .ok (.slice x21 x21n x21c) w6 ∧
          k11 ((x21, x21n, x21c), ()) w6) (
          k11 ((v5, v5n, v5c), ()) w4)) fun s12 w3 => match s12 with
      | ((v10, v10n, v10c), _) =>
      k7 ((v10, v10n, v10c), (IntKind.wrap .i64 (v6 + 1)), ()) w3) (
      cl Try.prog 56 [.slice v5 v5n v5c, .func (.func 57) #[] #[]] w2 fun e24 w7 => e24 = Ending.returned (.tuple #[]) ∧
      cl Try.prog 58 [.slice v5 v5n v5c] w7 fun e27 w8 => ∃ (x26 : Option Addr) (x26n x26c : Nat), e27 = Ending.returned (.slice x26 x26n x26c) ∧
      R (.slice x26 x26n x26c) w8)) ((x3, x3n, x3c), 0, ()) w1
def An40 : An := .seq (.leaf) (.seq (.leaf) (.seq (.seq (.leaf) (.blk (.loop [(3, .one (.slc)), (11, .one (.int .i64))] (.seq (.leaf) (.seq (.cond (.leaf) (.leaf)) (.seq (.join [(3, .one (.slc))] (.blk (.seq (.leaf) (.seq (.leaf) (.cond (.leaf) (.leaf)))))) (.leaf))))))) (.seq (.leaf) (.seq (.leaf) (.leaf)))))
theorem V40_eq (a0 : Option Addr) (a0n : Nat) (a0c : Nat) (w : World) (R : Value → World → Prop) : evF Try.prog Try.f40 An40 [.slice a0 a0n a0c] w R = V40 a0 a0n a0c w R := by kernel_rfl
theorem V40_calls (a0 : Option Addr) (a0n : Nat) (a0c : Nat) (w : World) (R : Value → World → Prop) (h : V40 a0 a0n a0c w R) : Calls Try.prog 40 #[.slice a0 a0n a0c] w fun e w' => ∃ v, e = .returned v ∧ R v w' :=
  calls_of_ev (args := [.slice a0 a0n a0c]) Try.func40 (Nat.le_of_ble_eq_true (by kernel_rfl)) (by rw [V40_eq]; exact h)
theorem ok40 : fnOk Try.prog 40 = true := by kernel_rfl

/-! depot/cnf.within -/
def V41 (a0 : Option Addr) (a0n : Nat) (a0c : Nat) (a1 : Int) (w : World) (R : Value → World → Prop) : Prop :=
  cl Try.prog 59 [.slice a0 a0n a0c] w fun e4 w1 => ∃ x3 : Bool, e4 = Ending.returned (.bool x3) ∧
  pif (!x3) (
    R (.bool false) w1) (
    lp (σ := Int × Unit) (fun s9 w2 k8 => match s9 with
      | (v7, _) =>
      pif (decide (v7 < (a0n : Int))) (
        ixA a0 a0n v7 1 fun p12 =>
        ldI .i64 w2 p12 fun x13 =>
        cl Try.prog 45 [.int .i64 x13] w2 fun e16 w3 => ∃ x15 : Int, e16 = Ending.returned (.int .i64 x15) ∧
        pif (decide (x15 > a1)) (
          R (.bool false) w3) (
          k8 ((IntKind.wrap .i64 (v7 + 1)), ()) w3)) (
        R (.bool true) w2)) (0, ()) w1)
def An41 : An := .seq (.leaf) (.seq (.seq (.leaf) (.cond (.seq (.leaf) (.leaf)) (.leaf))) (.seq (.seq (.leaf) (.blk (.loop [(12, .one (.int .i64))] (.seq (.leaf) (.seq (.cond (.leaf) (.leaf)) (.seq (.blk (.seq (.leaf) (.seq (.leaf) (.cond (.seq (.leaf) (.leaf)) (.leaf))))) (.leaf))))))) (.seq (.leaf) (.leaf))))
theorem V41_eq (a0 : Option Addr) (a0n : Nat) (a0c : Nat) (a1 : Int) (w : World) (R : Value → World → Prop) : evF Try.prog Try.f41 An41 [.slice a0 a0n a0c, .int .i64 a1] w R = V41 a0 a0n a0c a1 w R := by kernel_rfl
theorem V41_calls (a0 : Option Addr) (a0n : Nat) (a0c : Nat) (a1 : Int) (w : World) (R : Value → World → Prop) (h : V41 a0 a0n a0c a1 w R) : Calls Try.prog 41 #[.slice a0 a0n a0c, .int .i64 a1] w fun e w' => ∃ v, e = .returned v ∧ R v w' :=
  calls_of_ev (args := [.slice a0 a0n a0c, .int .i64 a1]) Try.func41 (Nat.le_of_ble_eq_true (by kernel_rfl)) (by rw [V41_eq]; exact h)
theorem ok41 : fnOk Try.prog 41 = true := by kernel_rfl

/-! depot/lits.Taut -/
def V42 (a0 : Option Addr) (a0n : Nat) (a0c : Nat) (w : World) (R : Value → World → Prop) : Prop :=
  cl Try.prog 40 [.slice a0 a0n a0c] w fun e4 w1 => ∃ (x3 : Option Addr) (x3n x3c : Nat), e4 = Ending.returned (.slice x3 x3n x3c) ∧
  lp (σ := Int × Unit) (fun s8 w2 k7 => match s8 with
    | (v6, _) =>
    pif (decide (v6 < (x3n : Int))) (
      ixA x3 x3n v6 1 fun p10 =>
      ldI .i64 (World.drew w2) p10 fun x11 =>
      ixA x3 x3n (IntKind.wrap .i64 (v6 - 1)) 1 fun p12 =>
      ldI .i64 (World.drew w2) p12 fun x13 =>
      pif (x11 == (IntKind.wrap .i64 (0 - x13))) (
        R (.bool true) (World.drew w2)) (
        k7 ((IntKind.wrap .i64 (v6 + 1)), ()) (World.drew w2))) (
      R (.bool false) w2)) (1, ()) w1
def An42 : An := .seq (.leaf) (.seq (.leaf) (.seq (.seq (.leaf) (.blk (.loop [(4, .one (.int .i64))] (.seq (.seq (.leaf) (.cond (.leaf) (.leaf))) (.seq (.blk (.seq (.draw [0, 0, 3, 7, 0, 0, 32, 112, 240, 496, 1023]) (.cond (.seq (.leaf) (.leaf)) (.leaf)))) (.leaf)))))) (.seq (.leaf) (.leaf))))
theorem V42_eq (a0 : Option Addr) (a0n : Nat) (a0c : Nat) (w : World) (R : Value → World → Prop) : evF Try.prog Try.f42 An42 [.slice a0 a0n a0c] w R = V42 a0 a0n a0c w R := by kernel_rfl
theorem V42_calls (a0 : Option Addr) (a0n : Nat) (a0c : Nat) (w : World) (R : Value → World → Prop) (h : V42 a0 a0n a0c w R) : Calls Try.prog 42 #[.slice a0 a0n a0c] w fun e w' => ∃ v, e = .returned v ∧ R v w' :=
  calls_of_ev (args := [.slice a0 a0n a0c]) Try.func42 (Nat.le_of_ble_eq_true (by kernel_rfl)) (by rw [V42_eq]; exact h)
theorem ok42 : fnOk Try.prog 42 = true := by kernel_rfl

/-! (*depot/watch.Watch).attach -/
def V43 (a0 : Option Addr) (a1 : Option Addr) (w : World) (R : Value → World → Prop) : Prop :=
  nn a1 fun p4 =>
  ldC w (p4.add 0) fun x5 x5n x5c =>
  lp (σ := (Option Addr × Nat × Nat) × Int × Unit) (fun s9 w1 k8 => match s9 with
    | ((v6, v6n, v6c), v7, _) =>
    pif (decide (v7 < (x5n : Int))) (
      jn (σ := (Option Addr × Nat × Nat) × Unit) (fun k12 =>
        ixA x5 x5n v7 1 fun p15 =>
        ldI .i64 w1 p15 fun x16 =>
        cl Try.prog 26 [.pointer a0, .int .i64 x16] w1 fun e19 w3 => ∃ x18 : Int, e19 = Ending.returned (.int .i8 x18) ∧
        pif (decide (x18 ≥ 0)) (
          alc w3 [.int .i64 x16] 3 fun b21 w4 =>
          ∃ (x22 : Option Addr) (x22n x22c : Nat), ∃ w5 : World, (Builtin.append_ #[29, 29] 29 #[.slice v6 v6n v6c, .slice (some (⟨b21, 0, none⟩ : Addr)) 1 1]).run Try.prog w4 = .ok (.slice x22 x22n x22c) w5 ∧
          k12 ((x22, x22n, x22c), ()) w5) (
          k12 ((v6, v6n, v6c), ()) w3)) fun s13 w2 => match s13 with
      | ((v11, v11n, v11c), _) =>
      k8 ((v11, v11n, v11c), (IntKind.wrap .i64 (v7 + 1)), ()) w2) (
      pif (decide ((v6n : Int) < 2)) (
        R (.bool false) w1) (
        ixA v6 v6n 0 1 fun p26 =>
        ldI .i64 (World.drew w1) p26 fun x27 =>
        ixA v6 v6n 1 1 fun p28 =>
        ldI .i64 (World.drew w1) p28 fun x29 =>
        nn a1 fun p30 =>
        st (World.drew w1) ((p30.add 1).add 0) (.int .i64 x27) fun w6 =>
        st w6 ((p30.add 1).add 1) (.int .i64 x29) fun w7 =>
        nn a1 fun p32 =>
        ldI .i64 w7 ((p32.add 1).add 0) fun x33 =>
        ldI .i64 w7 ((p32.add 1).add 1) fun x34 =>
        lp (σ := Int × Unit) (fun s37 w8 k36 => match s37 with
          | (v35, _) =>
          pif (decide (v35 < 2)) (
            (0 : Int) ≤ v35 ∧ v35 < ((2 : Nat) : Int) ∧ ∃ x40 : Int, ([.int .i64 x33, .int .i64 x34] : List Value)[(Int.toNat v35)]? = some (.int .i64 x40) ∧
            nn a0 fun p41 =>
            ldC (World.drew w8) (p41.add 4) fun x42 x42n x42c =>
            nn a0 fun p43 =>
            ldC (World.drew w8) (p43.add 4) fun x44 x44n x44c =>
            (
              cl Try.prog 60 [.int .i64 x40] (World.drew w8) fun e46 w9 => ∃ x45 : Int, e46 = Ending.returned (.int .i64 x45) ∧
              (
                ldC w9 (p43.add 4) fun x47 x47n x47c =>
                ((.slice x47 x47n x47c : Value) = .slice x44 x44n x44c)) ∧
              (
                ldC w9 (p41.add 4) fun x48 x48n x48c =>
                ((.slice x48 x48n x48c : Value) = .slice x42 x42n x42c)) ∧
              (
                cl Try.prog 60 [.int .i64 x40] w9 fun e50 w10 => ∃ x49 : Int, e50 = Ending.returned (.int .i64 x49) ∧
                (
                  ldC w10 (p43.add 4) fun x51 x51n x51c =>
                  ((.slice x51 x51n x51c : Value) = .slice x44 x44n x44c)) ∧
                (
                  ldC w10 (p41.add 4) fun x52 x52n x52c =>
                  ((.slice x52 x52n x52c : Value) = .slice x42 x42n x42c)) ∧
                ixA x44 x44n x49 1 fun p53 =>
                ldC w10 p53 fun x54 x54n x54c =>
                alc w10 [.pointer a1] 74 fun b55 w11 =>
                (
                  ldC w11 p53 fun x56 x56n x56c =>
                  ((.slice x56 x56n x56c : Value) = .slice x54 x54n x54c)) ∧
                (
                  ldC w11 (p43.add 4) fun x57 x57n x57c =>
                  ((.slice x57 x57n x57c : Value) = .slice x44 x44n x44c)) ∧
                (
                  ldC w11 (p41.add 4) fun x58 x58n x58c =>
                  ((.slice x58 x58n x58c : Value) = .slice x42 x42n x42c)) ∧
                ∃ (x59 : Option Addr) (x59n x59c : Nat), ∃ w12 : World, (Builtin.append_ #[62, 62] 62 #[.slice x54 x54n x54c, .slice (some (⟨b55, 0, none⟩ : Addr)) 1 1]).run Try.prog w11 = .ok (.slice x59 x59n x59c) w12 ∧
                (
                  ldC w12 (p41.add 4) fun x60 x60n x60c =>
                  ((.slice x60 x60n x60c : Value) = .slice x42 x42n x42c)) ∧
                ixA x42 x42n x45 1 fun p61 =>
                st w12 (p61.add 0) (.slice x59 x59n x59c) fun w13 =>
                k36 ((IntKind.wrap .i64 (v35 + 1)), ()) w13) ∧
              (
                alc w9 [.pointer a1] 74 fun b63 w14 =>
                (
                  ldC w14 (p43.add 4) fun x64 x64n x64c =>
                  ((.slice x64 x64n x64c : Value) = .slice x44 x44n x44c)) ∧
                (
                  ldC w14 (p41.add 4) fun x65 x65n x65c =>
                  ((.slice x65 x65n x65c : Value) = .slice x42 x42n x42c)) ∧
                cl Try.prog 60 [.int .i64 x40] w14 fun e67 w15 => ∃ x66 : Int, e67 = Ending.returned (.int .i64 x66) ∧
                (
                  ldC w15 (p43.add 4) fun x68 x68n x68c =>
                  ((.slice x68 x68n x68c : Value) = .slice x44 x44n x44c)) ∧
                (
                  ldC w15 (p41.add 4) fun x69 x69n x69c =>
                  ((.slice x69 x69n x69c : Value) = .slice x42 x42n x42c)) ∧
                ixA x44 x44n x66 1 fun p70 =>
                ldC w15 p70 fun x71 x71n x71c =>
                ∃ (x72 : Option Addr) (x72n x72c : Nat), ∃ w16 : World, (Builtin.append_ #[62, 62] 62 #[.slice x71 x71n x71c, .slice (some (⟨b63, 0, none⟩ : Addr)) 1 1]).run Try.prog w15 = .ok (.slice x72 x72n x72c) w16 ∧
                (
                  ldC w16 (p41.add 4) fun x73 x73n x73c =>
                  ((.slice x73 x73n x73c : Value) = .slice x42 x42n x42c)) ∧
                ixA x42 x42n x45 1 fun p74 =>
                st w16 (p74.add 0) (.slice x72 x72n x72c) fun w17 =>
                k36 ((IntKind.wrap .i64 (v35 + 1)), ()) w17)) ∧
            (
              alc (World.drew w8) [.pointer a1] 74 fun b76 w18 =>
              (
                ldC w18 (p43.add 4) fun x77 x77n x77c =>
                ((.slice x77 x77n x77c : Value) = .slice x44 x44n x44c)) ∧
              (
                ldC w18 (p41.add 4) fun x78 x78n x78c =>
                ((.slice x78 x78n x78c : Value) = .slice x42 x42n x42c)) ∧
              cl Try.prog 60 [.int .i64 x40] w18 fun e80 w19 => ∃ x79 : Int, e80 = Ending.returned (.int .i64 x79) ∧
              (
                ldC w19 (p43.add 4) fun x81 x81n x81c =>
                ((.slice x81 x81n x81c : Value) = .slice x44 x44n x44c)) ∧
              (
                ldC w19 (p41.add 4) fun x82 x82n x82c =>
                ((.slice x82 x82n x82c : Value) = .slice x42 x42n x42c)) ∧
              cl Try.prog 60 [.int .i64 x40] w19 fun e84 w20 => ∃ x83 : Int, e84 = Ending.returned (.int .i64 x83) ∧
              (
                ldC w20 (p43.add 4) fun x85 x85n x85c =>
                ((.slice x85 x85n x85c : Value) = .slice x44 x44n x44c)) ∧
              (
                ldC w20 (p41.add 4) fun x86 x86n x86c =>
                ((.slice x86 x86n x86c : Value) = .slice x42 x42n x42c)) ∧
              ixA x44 x44n x83 1 fun p87 =>
              ldC w20 p87 fun x88 x88n x88c =>
              ∃ (x89 : Option Addr) (x89n x89c : Nat), ∃ w21 : World, (Builtin.append_ #[62, 62] 62 #[.slice x88 x88n x88c, .slice (some (⟨b76, 0, none⟩ : Addr)) 1 1]).run Try.prog w20 = .ok (.slice x89 x89n x89c) w21 ∧
              (
                ldC w21 (p41.add 4) fun x90 x90n x90c =>
                ((.slice x90 x90n x90c : Value) = .slice x42 x42n x42c)) ∧
              ixA x42 x42n x79 1 fun p91 =>
              st w21 (p91.add 0) (.slice x89 x89n x89c) fun w22 =>
              k36 ((IntKind.wrap .i64 (v35 + 1)), ()) w22)) (
            R (.bool true) w8)) (0, ()) w7))) ((none, 0, 0), 0, ()) w
def An43 : An := .seq (.leaf) (.seq (.leaf) (.seq (.seq (.leaf) (.blk (.loop [(5, .one (.slc)), (15, .one (.int .i64))] (.seq (.leaf) (.seq (.cond (.leaf) (.leaf)) (.seq (.join [(5, .one (.slc))] (.blk (.seq (.leaf) (.seq (.leaf) (.cond (.leaf) (.leaf)))))) (.leaf))))))) (.seq (.seq (.leaf) (.cond (.seq (.leaf) (.leaf)) (.leaf))) (.seq (.draw [0, 0, 2, 6, 0, 16, 48, 126, 255, 511, 1023]) (.seq (.seq (.leaf) (.blk (.loop [(45, .one (.int .i64))] (.seq (.leaf) (.seq (.cond (.leaf) (.leaf)) (.seq (.blk (.seq (.leaf) (.draw [0, 1, 3, 7, 0, 16, 0, 64, 192, 448, 0, 1072, 4080, 8176, 0, 16384, 65520, 131071, 262143]))) (.leaf))))))) (.seq (.leaf) (.leaf)))))))
theorem V43_eq (a0 : Option Addr) (a1 : Option Addr) (w : World) (R : Value → World → Prop) : evF Try.prog Try.f43 An43 [.pointer a0, .pointer a1] w R = V43 a0 a1 w R := by kernel_rfl
theorem V43_calls (a0 : Option Addr) (a1 : Option Addr) (w : World) (R : Value → World → Prop) (h : V43 a0 a1 w R) : Calls Try.prog 43 #[.pointer a0, .pointer a1] w fun e w' => ∃ v, e = .returned v ∧ R v w' :=
  calls_of_ev (args := [.pointer a0, .pointer a1]) Try.func43 (Nat.le_of_ble_eq_true (by kernel_rfl)) (by rw [V43_eq]; exact h)
theorem ok43 : fnOk Try.prog 43 = true := by kernel_rfl

/-! depot/lits.Formed -/
def V44 (a0 : Int) (w : World) (R : Value → World → Prop) : Prop :=
  R (.bool (cond (cond (a0 != 0) (decide (a0 ≥ (-1048576))) false) (decide (a0 ≤ 1048576)) false)) w
def An44 : An := .seq (.leaf) (.seq (.leaf) (.leaf))
theorem V44_eq (a0 : Int) (w : World) (R : Value → World → Prop) : evF Try.prog Try.f44 An44 [.int .i64 a0] w R = V44 a0 w R := by kernel_rfl
theorem V44_calls (a0 : Int) (w : World) (R : Value → World → Prop) (h : V44 a0 w R) : Calls Try.prog 44 #[.int .i64 a0] w fun e w' => ∃ v, e = .returned v ∧ R v w' :=
  calls_of_ev (args := [.int .i64 a0]) Try.func44 (Nat.le_of_ble_eq_true (by kernel_rfl)) (by rw [V44_eq]; exact h)
theorem ok44 : fnOk Try.prog 44 = true := by kernel_rfl

/-! depot/lits.Var -/
def V45 (a0 : Int) (w : World) (R : Value → World → Prop) : Prop :=
  cl Try.prog 44 [.int .i64 a0] w fun e4 w1 => ∃ x3 : Bool, e4 = Ending.returned (.bool x3) ∧
  pif (!x3) (
    R (.int .i64 0) w1) (
    pif (decide (a0 < 0)) (
      R (.int .i64 (IntKind.wrap .i64 (0 - a0))) w1) (
      R (.int .i64 a0) w1))
def An45 : An := .seq (.leaf) (.seq (.blk (.seq (.leaf) (.cond (.seq (.leaf) (.leaf)) (.seq (.leaf) (.cond (.seq (.leaf) (.leaf)) (.leaf)))))) (.seq (.leaf) (.leaf)))
theorem V45_eq (a0 : Int) (w : World) (R : Value → World → Prop) : evF Try.prog Try.f45 An45 [.int .i64 a0] w R = V45 a0 w R := by kernel_rfl
theorem V45_calls (a0 : Int) (w : World) (R : Value → World → Prop) (h : V45 a0 w R) : Calls Try.prog 45 #[.int .i64 a0] w fun e w' => ∃ v, e = .returned v ∧ R v w' :=
  calls_of_ev (args := [.int .i64 a0]) Try.func45 (Nat.le_of_ble_eq_true (by kernel_rfl)) (by rw [V45_eq]; exact h)
theorem ok45 : fnOk Try.prog 45 = true := by kernel_rfl

/-! (*depot/watch.Watch).visit -/
def V46 (a0 : Option Addr) (a1 : Int) (w : World) (R : Value → World → Prop) : Prop :=
  cl Try.prog 60 [.int .i64 a1] w fun e4 w1 => ∃ x3 : Int, e4 = Ending.returned (.int .i64 x3) ∧
  nn a0 fun p6 =>
  ldC w1 (p6.add 4) fun x7 x7n x7c =>
  ixA x7 x7n x3 1 fun p8 =>
  ldC w1 p8 fun x9 x9n x9c =>
  cl Try.prog 61 [.slice x9 x9n x9c] w1 fun e11 w2 => ∃ (x10 : Option Addr) (x10n x10c : Nat), e11 = Ending.returned (.slice x10 x10n x10c) ∧
  nn a0 fun p13 =>
  ldC w2 (p13.add 4) fun x14 x14n x14c =>
  ixA x14 x14n x3 1 fun p15 =>
  ldC w2 p15 fun x16 x16n x16c =>
  ∃ w3 : World, (Builtin.clear_ #[62] 0 #[.slice x16 x16n x16c]).run Try.prog w2 = .ok (.tuple #[]) w3 ∧
  nn a0 fun p18 =>
  ldC w3 (p18.add 4) fun x19 x19n x19c =>
  ixA x19 x19n x3 1 fun p20 =>
  ldC w3 p20 fun x21 x21n x21c =>
  (0 : Int) ≤ 0 ∧ 0 ≤ (x21c : Int) ∧
  lp (σ := (Option Addr × Nat × Nat) × Bool × Int × Unit) (fun s28 w4 k27 => match s28 with
    | ((v24, v24n, v24c), v25, v26, _) =>
    pif (decide (v26 < (x10n : Int))) (
      jn (σ := (Option Addr × Nat × Nat) × Bool × Unit) (fun k32 =>
        ixA x10 x10n v26 1 fun p35 =>
        ldP w4 p35 fun x36 =>
        gd (α := Bool) v25 (fun k38 =>
          cl Try.prog 62 [.pointer a0, .pointer x36, .int .i64 a1] w4 fun e40 w6 => ∃ x39 : Bool, e40 = Ending.returned (.bool x39) ∧
          k38 x39 w6) false w4 fun x41 w7 =>
        pif (cond v25 x41 false) (
          k32 ((v24, v24n, v24c), v25, ()) w7) (
          alc w7 [.pointer x36] 74 fun b43 w8 =>
          ∃ (x44 : Option Addr) (x44n x44c : Nat), ∃ w9 : World, (Builtin.append_ #[62, 62] 62 #[.slice v24 v24n v24c, .slice (some (⟨b43, 0, none⟩ : Addr)) 1 1]).run Try.prog w8 = .ok (.slice x44 x44n x44c) w9 ∧
          pif (!v25) (
            k32 ((x44, x44n, x44c), v25, ()) w9) (
            nn x36 fun p47 =>
            ixA (some (p47.add 1)) 2 0 1 fun p48 =>
            ldI .i64 w9 p48 fun x49 =>
            jn (σ := Int × Unit) (fun k51 =>
              pif (x49 == a1) (
                nn x36 fun p55 =>
                ixA (some (p55.add 1)) 2 1 1 fun p56 =>
                ldI .i64 w9 p56 fun x57 =>
                k51 (x57, ()) w9) (
                k51 (x49, ()) w9)) fun s52 w10 => match s52 with
            | (v50, _) =>
            cl Try.prog 26 [.pointer a0, .int .i64 v50] w10 fun e60 w11 => ∃ x59 : Int, e60 = Ending.returned (.int .i8 x59) ∧
            pif (x59 == (-1)) (
              k32 ((x44, x44n, x44c), false, ()) w11) (
              pif (x59 == 0) (
                cl Try.prog 27 [.pointer a0, .int .i64 v50] w11 fun e65 w12 => e65 = Ending.returned (.tuple #[]) ∧
                k32 ((x44, x44n, x44c), v25, ()) w12) (
                k32 ((x44, x44n, x44c), v25, ()) w11))))) fun s33 w5 => match s33 with
      | ((v30, v30n, v30c), v31, _) =>
      k27 ((v30, v30n, v30c), v31, (IntKind.wrap .i64 (v26 + 1)), ()) w5) (
      nn a0 fun p68 =>
      ldC w4 (p68.add 4) fun x69 x69n x69c =>
      ixA x69 x69n x3 1 fun p70 =>
      st w4 (p70.add 0) (.slice v24 v24n v24c) fun w13 =>
      R (.bool v25) w13)) (((slA x21 x21c 0 1), ((Int.toNat 0) - 0), (x21c - 0)), true, 0, ()) w3
def An46 : An := .seq (.leaf) (.seq (.leaf) (.seq (.leaf) (.seq (.leaf) (.seq (.leaf) (.seq (.leaf) (.seq (.seq (.leaf) (.blk (.loop [(7, .one (.slc)), (8, .one (.bool)), (39, .one (.int .i64))] (.seq (.leaf) (.seq (.cond (.leaf) (.leaf)) (.seq (.join [(7, .one (.slc)), (8, .one (.bool))] (.blk (.seq (.leaf) (.seq (.seq (.leaf) (.cond (.leaf) (.leaf))) (.seq (.leaf) (.seq (.seq (.leaf) (.cond (.leaf) (.leaf))) (.seq (.leaf) (.seq (.join [(11, .one (.int .i64))] (.seq (.leaf) (.cond (.leaf) (.leaf)))) (.seq (.leaf) (.blk (.seq (.leaf) (.cond (.leaf) (.seq (.leaf) (.cond (.leaf) (.leaf))))))))))))))) (.leaf))))))) (.seq (.leaf) (.seq (.leaf) (.leaf)))))))))
theorem V46_eq (a0 : Option Addr) (a1 : Int) (w : World) (R : Value → World → Prop) : evF Try.prog Try.f46 An46 [.pointer a0, .int .i64 a1] w R = V46 a0 a1 w R := by kernel_rfl
theorem V46_calls (a0 : Option Addr) (a1 : Int) (w : World) (R : Value → World → Prop) (h : V46 a0 a1 w R) : Calls Try.prog 46 #[.pointer a0, .int .i64 a1] w fun e w' => ∃ v, e = .returned v ∧ R v w' :=
  calls_of_ev (args := [.pointer a0, .int .i64 a1]) Try.func46 (Nat.le_of_ble_eq_true (by kernel_rfl)) (by rw [V46_eq]; exact h)
theorem ok46 : fnOk Try.prog 46 = true := by kernel_rfl

/-! (*depot/watch.Watch).look -/
def V47 (a0 : Option Addr) (a1 : Option Addr) (w : World) (R : Value → World → Prop) : Prop :=
  nn a1 fun p4 =>
  ldC w (p4.add 0) fun x5 x5n x5c =>
  lp (σ := Int × Int × Unit) (fun s9 w1 k8 => match s9 with
    | (v6, v7, _) =>
    pif (decide (v7 < (x5n : Int))) (
      jn (σ := Int × Unit) (fun k12 =>
        ixA x5 x5n v7 1 fun p15 =>
        ldI .i64 w1 p15 fun x16 =>
        cl Try.prog 26 [.pointer a0, .int .i64 x16] w1 fun e19 w3 => ∃ x18 : Int, e19 = Ending.returned (.int .i8 x18) ∧
        pif (x18 == 1) (
          R (.bool true) w3) (
          pif (x18 == 0) (
            pif (v6 != 0) (
              R (.bool true) w3) (
              k12 (x16, ()) w3)) (
            k12 (v6, ()) w3))) fun s13 w2 => match s13 with
      | (v11, _) =>
      k8 (v11, (IntKind.wrap .i64 (v7 + 1)), ()) w2) (
      pif (v6 == 0) (
        R (.bool false) w1) (
        cl Try.prog 27 [.pointer a0, .int .i64 v6] w1 fun e30 w4 => e30 = Ending.returned (.tuple #[]) ∧
        R (.bool true) w4))) (0, 0, ()) w
def An47 : An := .seq (.leaf) (.seq (.leaf) (.seq (.seq (.leaf) (.blk (.loop [(5, .one (.int .i64)), (13, .one (.int .i64))] (.seq (.leaf) (.seq (.cond (.leaf) (.leaf)) (.seq (.join [(5, .one (.int .i64))] (.blk (.seq (.leaf) (.seq (.leaf) (.blk (.seq (.leaf) (.cond (.seq (.leaf) (.leaf)) (.seq (.leaf) (.cond (.seq (.seq (.leaf) (.cond (.seq (.leaf) (.leaf)) (.leaf))) (.leaf)) (.leaf)))))))))) (.leaf))))))) (.seq (.seq (.leaf) (.cond (.seq (.leaf) (.leaf)) (.leaf))) (.seq (.leaf) (.seq (.leaf) (.leaf))))))
theorem V47_eq (a0 : Option Addr) (a1 : Option Addr) (w : World) (R : Value → World → Prop) : evF Try.prog Try.f47 An47 [.pointer a0, .pointer a1] w R = V47 a0 a1 w R := by kernel_rfl
theorem V47_calls (a0 : Option Addr) (a1 : Option Addr) (w : World) (R : Value → World → Prop) (h : V47 a0 a1 w R) : Calls Try.prog 47 #[.pointer a0, .pointer a1] w fun e w' => ∃ v, e = .returned v ∧ R v w' :=
  calls_of_ev (args := [.pointer a0, .pointer a1]) Try.func47 (Nat.le_of_ble_eq_true (by kernel_rfl)) (by rw [V47_eq]; exact h)
theorem ok47 : fnOk Try.prog 47 = true := by kernel_rfl

/-! slices.ContainsFunc[[]int,int] -/
def V48 (a0 : Option Addr) (a0n : Nat) (a0c : Nat) (a1 : Value) (w : World) (R : Value → World → Prop) : Prop :=
  cl Try.prog 63 [.slice a0 a0n a0c, a1] w fun e4 w1 => ∃ x3 : Int, e4 = Ending.returned (.int .i64 x3) ∧
  R (.bool (decide (x3 ≥ 0))) w1
def An48 : An := .seq (.leaf) (.seq (.leaf) (.leaf))
theorem V48_eq (a0 : Option Addr) (a0n : Nat) (a0c : Nat) (a1 : Value) (w : World) (R : Value → World → Prop) : evF Try.prog Try.f48 An48 [.slice a0 a0n a0c, a1] w R = V48 a0 a0n a0c a1 w R := by kernel_rfl
theorem V48_calls (a0 : Option Addr) (a0n : Nat) (a0c : Nat) (a1 : Value) (w : World) (R : Value → World → Prop) (h : V48 a0 a0n a0c a1 w R) : Calls Try.prog 48 #[.slice a0 a0n a0c, a1] w fun e w' => ∃ v, e = .returned v ∧ R v w' :=
  calls_of_ev (args := [.slice a0 a0n a0c, a1]) Try.func48 (Nat.le_of_ble_eq_true (by kernel_rfl)) (by rw [V48_eq]; exact h)
theorem ok48 : fnOk Try.prog 48 = true := by kernel_rfl

/-! (*depot/watch.Watch).tighten$1 -/
def V49 (a0 : Int) (c0 : Addr) (w : World) (R : Value → World → Prop) : Prop :=
  ldP w c0 fun x3 =>
  cl Try.prog 26 [.pointer x3, .int .i64 a0] w fun e5 w1 => ∃ x4 : Int, e5 = Ending.returned (.int .i8 x4) ∧
  R (.bool (x4 == 1)) w1
def An49 : An := .seq (.leaf) (.seq (.leaf) (.leaf))
theorem V49_eq (a0 : Int) (c0 : Addr) (w : World) (R : Value → World → Prop) : evF Try.prog Try.f49 An49 [.int .i64 a0, .pointer (some c0)] w R = V49 a0 c0 w R := by kernel_rfl
theorem V49_calls (a0 : Int) (c0 : Addr) (w : World) (R : Value → World → Prop) (h : V49 a0 c0 w R) : Calls Try.prog 49 #[.int .i64 a0, .pointer (some c0)] w fun e w' => ∃ v, e = .returned v ∧ R v w' :=
  calls_of_ev (args := [.int .i64 a0, .pointer (some c0)]) Try.func49 (Nat.le_of_ble_eq_true (by kernel_rfl)) (by rw [V49_eq]; exact h)
theorem ok49 : fnOk Try.prog 49 = true := by kernel_rfl

/-! depot/lits.byIndex -/
def V57 (a0 : Int) (a1 : Int) (w : World) (R : Value → World → Prop) : Prop :=
  cl Try.prog 60 [.int .i64 a0] w fun e4 w1 => ∃ x3 : Int, e4 = Ending.returned (.int .i64 x3) ∧
  cl Try.prog 60 [.int .i64 a1] w1 fun e6 w2 => ∃ x5 : Int, e6 = Ending.returned (.int .i64 x5) ∧
  R (.int .i64 (IntKind.wrap .i64 (x3 - x5))) w2
def An57 : An := .seq (.leaf) (.seq (.leaf) (.leaf))
theorem V57_eq (a0 : Int) (a1 : Int) (w : World) (R : Value → World → Prop) : evF Try.prog Try.f57 An57 [.int .i64 a0, .int .i64 a1] w R = V57 a0 a1 w R := by kernel_rfl
theorem V57_calls (a0 : Int) (a1 : Int) (w : World) (R : Value → World → Prop) (h : V57 a0 a1 w R) : Calls Try.prog 57 #[.int .i64 a0, .int .i64 a1] w fun e w' => ∃ v, e = .returned v ∧ R v w' :=
  calls_of_ev (args := [.int .i64 a0, .int .i64 a1]) Try.func57 (Nat.le_of_ble_eq_true (by kernel_rfl)) (by rw [V57_eq]; exact h)
theorem ok57 : fnOk Try.prog 57 = true := by kernel_rfl

/-! slices.Compact[[]int,int] -/
def V58 (a0 : Option Addr) (a0n : Nat) (a0c : Nat) (w : World) (R : Value → World → Prop) : Prop :=
  pif (decide ((a0n : Int) < 2)) (
    R (.slice a0 a0n a0c) w) (
    lp (σ := Int × Unit) (fun s7 w1 k6 => match s7 with
      | (v5, _) =>
      pif (decide (v5 < (a0n : Int))) (
        ixA a0 a0n v5 1 fun p9 =>
        ldI .i64 (World.drew w1) p9 fun x10 =>
        ixA a0 a0n (IntKind.wrap .i64 (v5 - 1)) 1 fun p11 =>
        ldI .i64 (World.drew w1) p11 fun x12 =>
        pif (x10 == x12) (
          (0 : Int) ≤ v5 ∧ v5 ≤ (a0n : Int) ∧
          lp (σ := Int × Int × Unit) (fun s18 w2 k17 => match s18 with
            | (v15, v16, _) =>
            pif (decide (v16 < (((a0n - (Int.toNat v5)) : Nat) : Int))) (
              jn (σ := Int × Unit) (fun k21 =>
                ixA (slA a0 a0c (Int.toNat v5) 1) (a0n - (Int.toNat v5)) v16 1 fun p23 =>
                ldI .i64 (World.drew w2) p23 fun x24 =>
                ixA (slA a0 a0c (Int.toNat v5) 1) (a0n - (Int.toNat v5)) (IntKind.wrap .i64 (v16 - 1)) 1 fun p25 =>
                ldI .i64 (World.drew w2) p25 fun x26 =>
                pif (x24 != x26) (
                  ixA (slA a0 a0c (Int.toNat v5) 1) (a0n - (Int.toNat v5)) v16 1 fun p28 =>
                  ldI .i64 (World.drew w2) p28 fun x29 =>
                  ixA a0 a0n v15 1 fun p30 =>
                  st (World.drew w2) (p30.add 0) (.int .i64 x29) fun w4 =>
                  k21 ((IntKind.wrap .i64 (v15 + 1)), ()) w4) (
                  k21 (v15, ()) (World.drew w2))) fun s22 w3 => match s22 with
              | (v20, _) =>
              k17 (v20, (IntKind.wrap .i64 (v16 + 1)), ()) w3) (
              (0 : Int) ≤ v15 ∧ v15 ≤ (a0n : Int) ∧
              ∃ w5 : World, (Builtin.clear_ #[29] 0 #[.slice (slA a0 a0c (Int.toNat v15) 1) (a0n - (Int.toNat v15)) (a0c - (Int.toNat v15))]).run Try.prog w2 = .ok (.tuple #[]) w5 ∧
              (0 : Int) ≤ v15 ∧ v15 ≤ (a0c : Int) ∧
              R (.slice (slA a0 a0c 0 1) ((Int.toNat v15) - 0) (a0c - 0)) w5)) (v5, 1, ()) (World.drew w1)) (
          k6 ((IntKind.wrap .i64 (v5 + 1)), ()) (World.drew w1))) (
        R (.slice a0 a0n a0c) w1)) (1, ()) w)
def An58 : An := .seq (.leaf) (.seq (.seq (.leaf) (.cond (.seq (.leaf) (.leaf)) (.leaf))) (.seq (.seq (.leaf) (.blk (.loop [(3, .one (.int .i64))] (.seq (.seq (.leaf) (.cond (.leaf) (.leaf))) (.seq (.blk (.seq (.draw [0, 0, 3, 7, 0, 0, 32, 112, 240, 511]) (.cond (.seq (.leaf) (.seq (.seq (.leaf) (.blk (.loop [(3, .one (.int .i64)), (5, .one (.int .i64))] (.seq (.seq (.leaf) (.cond (.leaf) (.leaf))) (.seq (.join [(3, .one (.int .i64))] (.blk (.seq (.draw [0, 0, 3, 7, 0, 0, 32, 112, 240, 511]) (.cond (.seq (.leaf) (.leaf)) (.leaf))))) (.leaf)))))) (.seq (.leaf) (.seq (.leaf) (.leaf))))) (.leaf)))) (.leaf)))))) (.seq (.leaf) (.leaf))))
theorem V58_eq (a0 : Option Addr) (a0n : Nat) (a0c : Nat) (w : World) (R : Value → World → Prop) : evF Try.prog Try.f58 An58 [.slice a0 a0n a0c] w R = V58 a0 a0n a0c w R := by kernel_rfl
theorem V58_calls (a0 : Option Addr) (a0n : Nat) (a0c : Nat) (w : World) (R : Value → World → Prop) (h : V58 a0 a0n a0c w R) : Calls Try.prog 58 #[.slice a0 a0n a0c] w fun e w' => ∃ v, e = .returned v ∧ R v w' :=
  calls_of_ev (args := [.slice a0 a0n a0c]) Try.func58 (Nat.le_of_ble_eq_true (by kernel_rfl)) (by rw [V58_eq]; exact h)
theorem ok58 : fnOk Try.prog 58 = true := by kernel_rfl

/-! depot/lits.Sound -/
def V59 (a0 : Option Addr) (a0n : Nat) (a0c : Nat) (w : World) (R : Value → World → Prop) : Prop :=
  lp (σ := Int × Unit) (fun s5 w1 k4 => match s5 with
    | (v3, _) =>
    pif (decide (v3 < (a0n : Int))) (
      ixA a0 a0n v3 1 fun p8 =>
      ldI .i64 w1 p8 fun x9 =>
      cl Try.prog 44 [.int .i64 x9] w1 fun e12 w2 => ∃ x11 : Bool, e12 = Ending.returned (.bool x11) ∧
      pif (!x11) (
        R (.bool false) w2) (
        k4 ((IntKind.wrap .i64 (v3 + 1)), ()) w2)) (
      R (.bool true) w1)) (0, ()) w
def An59 : An := .seq (.leaf) (.seq (.seq (.leaf) (.blk (.loop [(7, .one (.int .i64))] (.seq (.leaf) (.seq (.cond (.leaf) (.leaf)) (.seq (.blk (.seq (.leaf) (.seq (.leaf) (.cond (.seq (.leaf) (.leaf)) (.leaf))))) (.leaf))))))) (.seq (.leaf) (.leaf)))
theorem V59_eq (a0 : Option Addr) (a0n : Nat) (a0c : Nat) (w : World) (R : Value → World → Prop) : evF Try.prog Try.f59 An59 [.slice a0 a0n a0c] w R = V59 a0 a0n a0c w R := by kernel_rfl
theorem V59_calls (a0 : Option Addr) (a0n : Nat) (a0c : Nat) (w : World) (R : Value → World → Prop) (h : V59 a0 a0n a0c w R) : Calls Try.prog 59 #[.slice a0 a0n a0c] w fun e w' => ∃ v, e = .returned v ∧ R v w' :=
  calls_of_ev (args := [.slice a0 a0n a0c]) Try.func59 (Nat.le_of_ble_eq_true (by kernel_rfl)) (by rw [V59_eq]; exact h)
theorem ok59 : fnOk Try.prog 59 = true := by kernel_rfl

/-! depot/lits.Index -/
def V60 (a0 : Int) (w : World) (R : Value → World → Prop) : Prop :=
  cl Try.prog 44 [.int .i64 a0] w fun e4 w1 => ∃ x3 : Bool, e4 = Ending.returned (.bool x3) ∧
  pif (!x3) (
    R (.int .i64 (-1)) w1) (
    pif (decide (a0 < 0)) (
      R (.int .i64 (IntKind.wrap .i64 ((IntKind.wrap .i64 (2 * (IntKind.wrap .i64 (0 - a0)))) - 1))) w1) (
      R (.int .i64 (IntKind.wrap .i64 ((IntKind.wrap .i64 (2 * a0)) - 2))) w1))
def An60 : An := .seq (.leaf) (.seq (.blk (.seq (.leaf) (.cond (.seq (.leaf) (.leaf)) (.seq (.leaf) (.cond (.seq (.leaf) (.leaf)) (.leaf)))))) (.seq (.leaf) (.leaf)))
theorem V60_eq (a0 : Int) (w : World) (R : Value → World → Prop) : evF Try.prog Try.f60 An60 [.int .i64 a0] w R = V60 a0 w R := by kernel_rfl
theorem V60_calls (a0 : Int) (w : World) (R : Value → World → Prop) (h : V60 a0 w R) : Calls Try.prog 60 #[.int .i64 a0] w fun e w' => ∃ v, e = .returned v ∧ R v w' :=
  calls_of_ev (args := [.int .i64 a0]) Try.func60 (Nat.le_of_ble_eq_true (by kernel_rfl)) (by rw [V60_eq]; exact h)
theorem ok60 : fnOk Try.prog 60 = true := by kernel_rfl

/-! slices.Clone[[]*depot/watch.held,*depot/watch.held] -/
def V61 (a0 : Option Addr) (a0n : Nat) (a0c : Nat) (w : World) (R : Value → World → Prop) : Prop :=
  pif (Option.isNone a0) (
    R (.slice none 0 0) w) (
    alc w [] 74 fun b5 w1 =>
    ∃ (x6 : Option Addr) (x6n x6c : Nat), ∃ w2 : World, (Builtin.append_ #[62, 62] 62 #[.slice (some (⟨b5, 0, none⟩ : Addr)) 0 0, .slice a0 a0n a0c]).run Try.prog w1 = .ok (.slice x6 x6n x6c) w2 ∧
    R (.slice x6 x6n x6c) w2)
def An61 : An := .seq (.leaf) (.seq (.seq (.leaf) (.cond (.seq (.leaf) (.leaf)) (.leaf))) (.seq (.leaf) (.leaf)))
theorem V61_eq (a0 : Option Addr) (a0n : Nat) (a0c : Nat) (w : World) (R : Value → World → Prop) : evF Try.prog Try.f61 An61 [.slice a0 a0n a0c] w R = V61 a0 a0n a0c w R := by kernel_rfl
theorem V61_calls (a0 : Option Addr) (a0n : Nat) (a0c : Nat) (w : World) (R : Value → World → Prop) (h : V61 a0 a0n a0c w R) : Calls Try.prog 61 #[.slice a0 a0n a0c] w fun e w' => ∃ v, e = .returned v ∧ R v w' :=
  calls_of_ev (args := [.slice a0 a0n a0c]) Try.func61 (Nat.le_of_ble_eq_true (by kernel_rfl)) (by rw [V61_eq]; exact h)
theorem ok61 : fnOk Try.prog 61 = true := by kernel_rfl

/-! (*depot/watch.Watch).moved -/
def V62 (a0 : Option Addr) (a1 : Option Addr) (a2 : Int) (w : World) (R : Value → World → Prop) : Prop :=
  nn a1 fun p3 =>
  ixA (some (p3.add 1)) 2 0 1 fun p4 =>
  ldI .i64 w p4 fun x5 =>
  jn (σ := Int × Unit) (fun k7 =>
    nn a1 fun p9 =>
    ldI .i64 (World.drew w) ((p9.add 1).add 0) fun x10 =>
    ldI .i64 (World.drew w) ((p9.add 1).add 1) fun x11 =>
    nn a1 fun p12 =>
    ixA (some (p12.add 1)) 2 1 1 fun p13 =>
    ldI .i64 (World.drew w) p13 fun x14 =>
    eqV Try.prog .eql 75 (.agg #[.int .i64 x10, .int .i64 x11]) (.agg #[.int .i64 a2, .int .i64 x14]) fun q15 =>
    pif q15 (
      nn a1 fun p17 =>
      ixA (some (p17.add 1)) 2 1 1 fun p18 =>
      ldI .i64 (World.drew w) p18 fun x19 =>
      k7 (x19, ()) (World.drew w)) (
      k7 (x5, ()) (World.drew w))) fun s8 w1 => match s8 with
  | (v6, _) =>
  cl Try.prog 26 [.pointer a0, .int .i64 v6] w1 fun e22 w2 => ∃ x21 : Int, e22 = Ending.returned (.int .i8 x21) ∧
  pif (x21 == 1) (
    R (.bool false) w2) (
    nn a1 fun p25 =>
    ldC w2 (p25.add 0) fun x26 x26n x26c =>
    lp (σ := Int × Unit) (fun s29 w3 k28 => match s29 with
      | (v27, _) =>
      pif (decide (v27 < (x26n : Int))) (
        ixA x26 x26n v27 1 fun p32 =>
        ldI .i64 w3 p32 fun x33 =>
        gd (α := Int) (cond (x33 != v6) (x33 != a2) false) (fun k35 =>
          cl Try.prog 26 [.pointer a0, .int .i64 x33] w3 fun e37 w4 => ∃ x36 : Int, e37 = Ending.returned (.int .i8 x36) ∧
          k35 x36 w4) 0 w3 fun x38 w5 =>
        pif (cond (cond (x33 != v6) (x33 != a2) false) (decide (x38 ≥ 0)) false) (
          nn a1 fun p40 =>
          st w5 ((p40.add 1).add 0) (.int .i64 v6) fun w6 =>
          st w6 ((p40.add 1).add 1) (.int .i64 x33) fun w7 =>
          nn a0 fun p41 =>
          ldC (World.drew w7) (p41.add 4) fun x42 x42n x42c =>
          nn a0 fun p43 =>
          ldC (World.drew w7) (p43.add 4) fun x44 x44n x44c =>
          (
            cl Try.prog 60 [.int .i64 x33] (World.drew w7) fun e46 w8 => ∃ x45 : Int, e46 = Ending.returned (.int .i64 x45) ∧
            (
              ldC w8 (p43.add 4) fun x47 x47n x47c =>
              ((.slice x47 x47n x47c : Value) = .slice x44 x44n x44c)) ∧
            (
              ldC w8 (p41.add 4) fun x48 x48n x48c =>
              ((.slice x48 x48n x48c : Value) = .slice x42 x42n x42c)) ∧
            (
              cl Try.prog 60 [.int .i64 x33] w8 fun e50 w9 => ∃ x49 : Int, e50 = Ending.returned (.int .i64 x49) ∧
              (
                ldC w9 (p43.add 4) fun x51 x51n x51c =>
                ((.slice x51 x51n x51c : Value) = .slice x44 x44n x44c)) ∧
              (
                ldC w9 (p41.add 4) fun x52 x52n x52c =>
                ((.slice x52 x52n x52c : Value) = .slice x42 x42n x42c)) ∧
              ixA x44 x44n x49 1 fun p53 =>
              ldC w9 p53 fun x54 x54n x54c =>
              alc w9 [.pointer a1] 74 fun b55 w10 =>
              (
                ldC w10 p53 fun x56 x56n x56c =>
                ((.slice x56 x56n x56c : Value) = .slice x54 x54n x54c)) ∧
              (
                ldC w10 (p43.add 4) fun x57 x57n x57c =>
                ((.slice x57 x57n x57c : Value) = .slice x44 x44n x44c)) ∧
              (
                ldC w10 (p41.add 4) fun x58 x58n x58c =>
                ((.slice x58 x58n x58c : Value) = .slice x42 x42n x42c)) ∧
              ∃ (x59 : Option Addr) (x59n x59c : Nat), ∃ w11 : World, (Builtin.append_ #[62, 62] 62 #[.slice x54 x54n x54c, .slice (some (⟨b55, 0, none⟩ : Addr)) 1 1]).run Try.prog w10 = .ok (.slice x59 x59n x59c) w11 ∧
              (
                ldC w11 (p41.add 4) fun x60 x60n x60c =>
                ((.slice x60 x60n x60c : Value) = .slice x42 x42n x42c)) ∧
              ixA x42 x42n x45 1 fun p61 =>
              st w11 (p61.add 0) (.slice x59 x59n x59c) fun w12 =>
              R (.bool true) w12) ∧
            (
              alc w8 [.pointer a1] 74 fun b63 w13 =>
              (
                ldC w13 (p43.add 4) fun x64 x64n x64c =>
                ((.slice x64 x64n x64c : Value) = .slice x44 x44n x44c)) ∧
              (
                ldC w13 (p41.add 4) fun x65 x65n x65c =>
                ((.slice x65 x65n x65c : Value) = .slice x42 x42n x42c)) ∧
              cl Try.prog 60 [.int .i64 x33] w13 fun e67 w14 => ∃ x66 : Int, e67 = Ending.returned (.int .i64 x66) ∧
              (
                ldC w14 (p43.add 4) fun x68 x68n x68c =>
                ((.slice x68 x68n x68c : Value) = .slice x44 x44n x44c)) ∧
              (
                ldC w14 (p41.add 4) fun x69 x69n x69c =>
                ((.slice x69 x69n x69c : Value) = .slice x42 x42n x42c)) ∧
              ixA x44 x44n x66 1 fun p70 =>
              ldC w14 p70 fun x71 x71n x71c =>
              ∃ (x72 : Option Addr) (x72n x72c : Nat), ∃ w15 : World, (Builtin.append_ #[62, 62] 62 #[.slice x71 x71n x71c, .slice (some (⟨b63, 0, none⟩ : Addr)) 1 1]).run Try.prog w14 = .ok (.slice x72 x72n x72c) w15 ∧
              (
                ldC w15 (p41.add 4) fun x73 x73n x73c =>
                ((.slice x73 x73n x73c : Value) = .slice x42 x42n x42c)) ∧
              ixA x42 x42n x45 1 fun p74 =>
              st w15 (p74.add 0) (.slice x72 x72n x72c) fun w16 =>
              R (.bool true) w16)) ∧
          (
            alc (World.drew w7) [.pointer a1] 74 fun b76 w17 =>
            (
              ldC w17 (p43.add 4) fun x77 x77n x77c =>
              ((.slice x77 x77n x77c : Value) = .slice x44 x44n x44c)) ∧
            (
              ldC w17 (p41.add 4) fun x78 x78n x78c =>
              ((.slice x78 x78n x78c : Value) = .slice x42 x42n x42c)) ∧
            cl Try.prog 60 [.int .i64 x33] w17 fun e80 w18 => ∃ x79 : Int, e80 = Ending.returned (.int .i64 x79) ∧
            (
              ldC w18 (p43.add 4) fun x81 x81n x81c =>
              ((.slice x81 x81n x81c : Value) = .slice x44 x44n x44c)) ∧
            (
              ldC w18 (p41.add 4) fun x82 x82n x82c =>
              ((.slice x82 x82n x82c : Value) = .slice x42 x42n x42c)) ∧
            cl Try.prog 60 [.int .i64 x33] w18 fun e84 w19 => ∃ x83 : Int, e84 = Ending.returned (.int .i64 x83) ∧
            (
              ldC w19 (p43.add 4) fun x85 x85n x85c =>
              ((.slice x85 x85n x85c : Value) = .slice x44 x44n x44c)) ∧
            (
              ldC w19 (p41.add 4) fun x86 x86n x86c =>
              ((.slice x86 x86n x86c : Value) = .slice x42 x42n x42c)) ∧
            ixA x44 x44n x83 1 fun p87 =>
            ldC w19 p87 fun x88 x88n x88c =>
            ∃ (x89 : Option Addr) (x89n x89c : Nat), ∃ w20 : World, (Builtin.append_ #[62, 62] 62 #[.slice x88 x88n x88c, .slice (some (⟨b76, 0, none⟩ : Addr)) 1 1]).run Try.prog w19 = .ok (.slice x89 x89n x89c) w20 ∧
            (
              ldC w20 (p41.add 4) fun x90 x90n x90c =>
              ((.slice x90 x90n x90c : Value) = .slice x42 x42n x42c)) ∧
            ixA x42 x42n x79 1 fun p91 =>
            st w20 (p91.add 0) (.slice x89 x89n x89c) fun w21 =>
            R (.bool true) w21)) (
          k28 ((IntKind.wrap .i64 (v27 + 1)), ()) w5)) (
        R (.bool false) w3)) (0, ()) w2)
def An62 : An := .seq (.leaf) (.seq (.leaf) (.seq (.join [(7, .one (.int .i64))] (.seq (.draw [0, 1, 3, 7, 0, 0, 32, 96, 224, 480, 1008, 2047]) (.cond (.leaf) (.leaf)))) (.seq (.seq (.leaf) (.cond (.seq (.leaf) (.leaf)) (.leaf))) (.seq (.seq (.leaf) (.blk (.loop [(41, .one (.int .i64))] (.seq (.leaf) (.seq (.cond (.leaf) (.leaf)) (.seq (.blk (.seq (.leaf) (.seq (.leaf) (.cond (.seq (.leaf) (.seq (.draw [0, 1, 3, 7, 0, 16, 0, 64, 192, 448, 0, 1072, 4080, 8176, 0, 16384, 65520, 131071, 262143]) (.seq (.leaf) (.leaf)))) (.leaf))))) (.leaf))))))) (.seq (.leaf) (.leaf))))))
theorem V62_eq (a0 : Option Addr) (a1 : Option Addr) (a2 : Int) (w : World) (R : Value → World → Prop) : evF Try.prog Try.f62 An62 [.pointer a0, .pointer a1, .int .i64 a2] w R = V62 a0 a1 a2 w R := by kernel_rfl
theorem V62_calls (a0 : Option Addr) (a1 : Option Addr) (a2 : Int) (w : World) (R : Value → World → Prop) (h : V62 a0 a1 a2 w R) : Calls Try.prog 62 #[.pointer a0, .pointer a1, .int .i64 a2] w fun e w' => ∃ v, e = .returned v ∧ R v w' :=
  calls_of_ev (args := [.pointer a0, .pointer a1, .int .i64 a2]) Try.func62 (Nat.le_of_ble_eq_true (by kernel_rfl)) (by rw [V62_eq]; exact h)
theorem ok62 : fnOk Try.prog 62 = true := by kernel_rfl

/-! slices.IndexFunc[[]int,int] -/
def V63 (a0 : Option Addr) (a0n : Nat) (a0c : Nat) (a1 : Value) (w : World) (R : Value → World → Prop) : Prop :=
  lp (σ := Int × Unit) (fun s5 w1 k4 => match s5 with
    | (v3, _) =>
    pif (decide (v3 < (a0n : Int))) (
      ixA a0 a0n v3 1 fun p9 =>
      ldI .i64 w1 p9 fun x10 =>
      clF Try.prog (a1) [.int .i64 x10] w1 fun e12 w2 => ∃ x11 : Bool, e12 = Ending.returned (.bool x11) ∧
      pif x11 (
        R (.int .i64 v3) w2) (
        k4 ((IntKind.wrap .i64 (v3 + 1)), ()) w2)) (
      R (.int .i64 (-1)) w1)) (0, ()) w
def An63 : An := .seq (.leaf) (.seq (.seq (.leaf) (.blk (.loop [(8, .one (.int .i64))] (.seq (.leaf) (.seq (.cond (.leaf) (.leaf)) (.seq (.blk (.seq (.leaf) (.seq (.leaf) (.cond (.seq (.leaf) (.leaf)) (.leaf))))) (.leaf))))))) (.seq (.leaf) (.leaf)))
theorem V63_eq (a0 : Option Addr) (a0n : Nat) (a0c : Nat) (a1 : Value) (w : World) (R : Value → World → Prop) : evF Try.prog Try.f63 An63 [.slice a0 a0n a0c, a1] w R = V63 a0 a0n a0c a1 w R := by kernel_rfl
theorem V63_calls (a0 : Option Addr) (a0n : Nat) (a0c : Nat) (a1 : Value) (w : World) (R : Value → World → Prop) (h : V63 a0 a0n a0c a1 w R) : Calls Try.prog 63 #[.slice a0 a0n a0c, a1] w fun e w' => ∃ v, e = .returned v ∧ R v w' :=
  calls_of_ev (args := [.slice a0 a0n a0c, a1]) Try.func63 (Nat.le_of_ble_eq_true (by kernel_rfl)) (by rw [V63_eq]; exact h)
theorem ok63 : fnOk Try.prog 63 = true := by kernel_rfl

end Go.Proofs.Ytjpblaenebodlaa.T
