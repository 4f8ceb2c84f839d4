/- The conditions under which the functions printed here return, as propositions over typed values; each is the machine's own, by the generator's theorem. -/
import Derived.Test.YtfifgopmegbifaaProg
import Derived.Test.YtfifgopmegbifaaVcG
set_option linter.unusedVariables false
set_option maxRecDepth 100000
namespace Go.Proofs.Ytfifgopmegbifaa.T
open Go Go.Proofs.Ytfifgopmegbifaa.Vc
/-! depot/depotlaw14.HeatAdds -/
def V5 (a0 : Option Addr) (a0n : Nat) (a0c : Nat) (w : World) (R : Value → World → Prop) : Prop :=
  cl Try.prog 9 [.int .i64 2, .float .f64 4602678819172646912] w fun e5 w1 => ∃ x3 : Option Addr, ∃ x4 : Int, e5 = Ending.returned (.tuple #[.pointer x3, .int .i64 x4]) ∧
  pif (cond (Option.isNone x3) true (x4 != 0)) (
    R (.bool false) w1) (
    lp (σ := Nat × Nat × Int × Unit) (fun s14 w2 k13 => match s14 with
      | (v10, v11, v12, _) =>
      pif (cond (decide (v12 < (a0n : Int))) (decide (v12 < 40)) false) (
        cl Try.prog 13 [.pointer x3, .int .i64 2] w2 fun e18 w3 => ∃ x17 : Int, e18 = Ending.returned (.int .i64 x17) ∧
        pif (x17 != 0) (
          R (.bool false) w3) (
          ∃ x21 : Nat, (FloatKind.format .f64).add v10 v11 = some x21 ∧
          cl Try.prog 11 [.pointer x3, .int .i64 2] w3 fun e25 w4 => ∃ x23 : Nat, ∃ x24 : Int, e25 = Ending.returned (.tuple #[.float .f64 x23, .int .i64 x24]) ∧
          cl Try.prog 11 [.pointer x3, .int .i64 1] w4 fun e29 w5 => ∃ x27 : Nat, ∃ x28 : Int, e29 = Ending.returned (.tuple #[.float .f64 x27, .int .i64 x28]) ∧
          pif (cond (cond (cond (x24 != 0) true (x28 != 0)) true ((FloatKind.format .f64).order x23 x21 != some .eq)) true ((FloatKind.format .f64).order x27 0 != some .eq)) (
            R (.bool false) w5) (
            lp (σ := Nat × Int × Unit) (fun s36 w6 k35 => match s36 with
              | (v33, v34, _) =>
              ixA a0 a0n v12 1 fun p38 =>
              ldI .i64 w6 p38 fun x39 =>
              cl Try.prog 12 [.int .i64 x39, .int .i64 3] w6 fun e41 w7 => ∃ x40 : Int, e41 = Ending.returned (.int .i64 x40) ∧
              pif (decide (v34 < x40)) (
                cl Try.prog 14 [.pointer x3] w7 fun e43 w8 => e43 = Ending.returned (.tuple #[]) ∧
                ∃ x45 : Nat, (FloatKind.format .f64).mul v33 4611686018427387904 = some x45 ∧
                k35 (x45, (IntKind.wrap .i64 (v34 + 1)), ()) w8) (
                k13 (x21, v33, (IntKind.wrap .i64 (v12 + 1)), ()) w7)) (v11, 0, ()) w5))) (
        cl Try.prog 15 [.pointer x3] w2 fun e50 w9 => ∃ (x49 : Option Addr) (x49n x49c : Nat), e50 = Ending.returned (.slice x49 x49n x49c) ∧
        gd (α := Addr) (((x49n : Int) == 2) && (!((a0n : Int) == 0))) (fun k52 =>
          ixA x49 x49n 0 1 fun p53 =>
          k52 p53 w9) ⟨0, 0, none⟩ w9 fun x54 w10 =>
        gd (α := Int) (((x49n : Int) == 2) && (!((a0n : Int) == 0))) (fun k55 =>
          ldI .i64 w10 x54 fun x56 =>
          k55 x56 w10) 0 w10 fun x57 w11 =>
        R (.bool (cond ((x49n : Int) == 2) (cond ((a0n : Int) == 0) true (x57 == 2)) false)) w11)) (0, 4607182418800017408, 0, ()) w1)
def An5 : An := .seq (.leaf) (.seq (.leaf) (.seq (.seq (.leaf) (.cond (.seq (.leaf) (.leaf)) (.leaf))) (.seq (.leaf) (.seq (.seq (.leaf) (.blk (.loop [(5, .one (.flt .f64)), (6, .one (.flt .f64)), (7, .one (.int .i64))] (.seq (.seq (.leaf) (.cond (.leaf) (.leaf))) (.seq (.blk (.seq (.seq (.leaf) (.cond (.seq (.leaf) (.leaf)) (.leaf))) (.seq (.leaf) (.seq (.leaf) (.seq (.leaf) (.seq (.seq (.leaf) (.cond (.seq (.leaf) (.leaf)) (.leaf))) (.seq (.leaf) (.blk (.loop [(6, .one (.flt .f64)), (12, .one (.int .i64))] (.seq (.seq (.leaf) (.cond (.leaf) (.leaf))) (.seq (.blk (.seq (.leaf) (.leaf))) (.leaf)))))))))))) (.leaf)))))) (.seq (.leaf) (.seq (.leaf) (.leaf)))))))
theorem V5_eq (a0 : Option Addr) (a0n : Nat) (a0c : Nat) (w : World) (R : Value → World → Prop) : evF Try.prog Try.f5 An5 [.slice a0 a0n a0c] w R = V5 a0 a0n a0c w R := by kernel_rfl
theorem V5_calls (a0 : Option Addr) (a0n : Nat) (a0c : Nat) (w : World) (R : Value → World → Prop) (h : V5 a0 a0n a0c w R) : Calls Try.prog 5 #[.slice a0 a0n a0c] w fun e w' => ∃ v, e = .returned v ∧ R v w' :=
  calls_of_ev (args := [.slice a0 a0n a0c]) Try.func5 (Nat.le_of_ble_eq_true (by kernel_rfl)) (by rw [V5_eq]; exact h)
theorem ok5 : fnOk Try.prog 5 = true := by kernel_rfl

/-! depot/depotlaw14.HeatKeeps -/
def V6 (a0_0 : Int) (a0_1 : Nat) (a0_2 : Option Addr) (a0_2n : Nat) (a0_2c : Nat) (w : World) (R : Value → World → Prop) : Prop :=
  alc w [.int .i64 a0_0, .float .f64 a0_1, .slice a0_2 a0_2n a0_2c] 38 fun b2 w1 =>
  ldI .i64 w1 ((⟨b2, 0, none⟩ : Addr).add 0) fun x5 =>
  ldF .f64 w1 ((⟨b2, 0, none⟩ : Addr).add 1) fun x6 =>
  ldC w1 ((⟨b2, 0, none⟩ : Addr).add 2) fun x7 x7n x7c =>
  cl Try.prog 16 [.int .i64 x5, .float .f64 x6, .slice x7 x7n x7c, .slice none 0 0] w1 fun e10 w2 => ∃ x8 : Option Addr, ∃ (x9 : Option Addr) (x9n x9c : Nat), e10 = Ending.returned (.tuple #[.pointer x8, .slice x9 x9n x9c]) ∧
  pif (Option.isNone x8) (
    R (.bool false) w2) (
    cl Try.prog 15 [.pointer x8] w2 fun e15 w3 => ∃ (x14 : Option Addr) (x14n x14c : Nat), e15 = Ending.returned (.slice x14 x14n x14c) ∧
    cl Try.prog 17 [.slice x14 x14n x14c] w3 fun e17 w4 => ∃ (x16 : Option Addr) (x16n x16c : Nat), e17 = Ending.returned (.slice x16 x16n x16c) ∧
    cl Try.prog 15 [.pointer x8] w4 fun e20 w5 => ∃ (x19 : Option Addr) (x19n x19c : Nat), e20 = Ending.returned (.slice x19 x19n x19c) ∧
    cl Try.prog 15 [.pointer x8] w5 fun e23 w6 => ∃ (x22 : Option Addr) (x22n x22c : Nat), e23 = Ending.returned (.slice x22 x22n x22c) ∧
    alc w6 [.slice x19 x19n x19c, .slice x22 x22n x22c] 33 fun b24 w7 =>
    ∃ (x25 : Option Addr) (x25n x25c : Nat), ∃ w8 : World, (Builtin.append_ #[39, 39] 39 #[.slice x9 x9n x9c, .slice (some (⟨b24, 0, none⟩ : Addr)) 2 2]).run Try.prog w7 = .ok (.slice x25 x25n x25c) w8 ∧
    cl Try.prog 18 [.slice x19 x19n x19c, .slice x16 x16n x16c] w8 fun e28 w9 => ∃ x27 : Bool, e28 = Ending.returned (.bool x27) ∧
    gd (α := (Option Addr × Nat × Nat)) ((!(!x27)) && ((x16n : Int) == 0)) (fun k29 =>
      ldC w9 ((⟨b2, 0, none⟩ : Addr).add 2) fun x30 x30n x30c =>
      k29 (x30, x30n, x30c) w9) (none, 0, 0) w9 fun x31 w10 =>
    gd (α := Int) ((!(!x27)) && (cond ((x16n : Int) == 0) ((x31.2.1 : Int) == 0) false)) (fun k32 =>
      ldI .i64 w10 ((⟨b2, 0, none⟩ : Addr).add 0) fun x33 =>
      k32 x33 w10) 0 w10 fun x34 w11 =>
    gd (α := Int) ((!(!x27)) && (cond ((x16n : Int) == 0) ((x31.2.1 : Int) == 0) false)) (fun k35 =>
      cl Try.prog 12 [.int .i64 x34, .int .i64 61] w11 fun e37 w12 => ∃ x36 : Int, e37 = Ending.returned (.int .i64 x36) ∧
      k35 x36 w12) 0 w11 fun x38 w13 =>
    pif (cond (!x27) true (cond (cond ((x16n : Int) == 0) ((x31.2.1 : Int) == 0) false) (decide (x38 > 0)) false)) (
      R (.bool false) w13) (
      cl Try.prog 19 [.slice x25 x25n x25c] w13 fun e42 w14 => ∃ x41 : Bool, e42 = Ending.returned (.bool x41) ∧
      pif (!x41) (
        R (.bool false) w14) (
        cl Try.prog 15 [.pointer x8] w14 fun e46 w15 => ∃ (x45 : Option Addr) (x45n x45c : Nat), e46 = Ending.returned (.slice x45 x45n x45c) ∧
        cl Try.prog 18 [.slice x45 x45n x45c, .slice x16 x16n x16c] w15 fun e48 w16 => ∃ x47 : Bool, e48 = Ending.returned (.bool x47) ∧
        R (.bool x47) w16)))
def An6 : An := .seq (.leaf) (.seq (.leaf) (.seq (.leaf) (.seq (.seq (.leaf) (.cond (.seq (.leaf) (.leaf)) (.leaf))) (.seq (.leaf) (.seq (.leaf) (.seq (.leaf) (.seq (.seq (.leaf) (.cond (.seq (.leaf) (.leaf)) (.leaf))) (.seq (.seq (.leaf) (.cond (.seq (.leaf) (.leaf)) (.leaf))) (.seq (.leaf) (.leaf))))))))))
theorem V6_eq (a0_0 : Int) (a0_1 : Nat) (a0_2 : Option Addr) (a0_2n : Nat) (a0_2c : Nat) (w : World) (R : Value → World → Prop) : evF Try.prog Try.f6 An6 [.agg #[.int .i64 a0_0, .float .f64 a0_1, .slice a0_2 a0_2n a0_2c]] w R = V6 a0_0 a0_1 a0_2 a0_2n a0_2c w R := by kernel_rfl
theorem V6_calls (a0_0 : Int) (a0_1 : Nat) (a0_2 : Option Addr) (a0_2n : Nat) (a0_2c : Nat) (w : World) (R : Value → World → Prop) (h : V6 a0_0 a0_1 a0_2 a0_2n a0_2c w R) : Calls Try.prog 6 #[.agg #[.int .i64 a0_0, .float .f64 a0_1, .slice a0_2 a0_2n a0_2c]] w fun e w' => ∃ v, e = .returned v ∧ R v w' :=
  calls_of_ev (args := [.agg #[.int .i64 a0_0, .float .f64 a0_1, .slice a0_2 a0_2n a0_2c]]) Try.func6 (Nat.le_of_ble_eq_true (by kernel_rfl)) (by rw [V6_eq]; exact h)
theorem ok6 : fnOk Try.prog 6 = true := by kernel_rfl

/-! depot/depotlaw14.HeatScript -/
def V7 (a0_0 : Int) (a0_1 : Int) (a0_2 : Nat) (a0_3 : Nat) (a0_4 : Option Addr) (a0_4n : Nat) (a0_4c : Nat) (w : World) (R : Value → World → Prop) : Prop :=
  alc w [.int .i64 a0_0, .int .i64 a0_1, .float .f64 a0_2, .float .f64 a0_3, .slice a0_4 a0_4n a0_4c] 49 fun b2 w1 =>
  alc w1 [.pointer none, .pointer none] 50 fun b4 w2 =>
  alc w2 [.pointer none, .pointer none] 52 fun b6 w3 =>
  lp (σ := Int × Unit) (fun s10 w4 k9 => match s10 with
    | (v8, _) =>
    pif (decide (v8 < 2)) (
      ixA (some ((⟨b2, 0, none⟩ : Addr).add 0)) 2 v8 1 fun p13 =>
      ldI .i64 w4 p13 fun x14 =>
      cl Try.prog 12 [.int .i64 x14, .int .i64 2001] w4 fun e16 w5 => ∃ x15 : Int, e16 = Ending.returned (.int .i64 x15) ∧
      ixA (some ((⟨b2, 0, none⟩ : Addr).add 2)) 2 v8 1 fun p18 =>
      ldF .f64 w5 p18 fun x19 =>
      cl Try.prog 9 [.int .i64 x15, .float .f64 x19] w5 fun e22 w6 => ∃ x20 : Option Addr, ∃ x21 : Int, e22 = Ending.returned (.tuple #[.pointer x20, .int .i64 x21]) ∧
      ixA (some ((⟨b2, 0, none⟩ : Addr).add 2)) 2 v8 1 fun p24 =>
      ldF .f64 w6 p24 fun x25 =>
      cl Try.prog 20 [.int .i64 x15, .float .f64 x25] w6 fun e28 w7 => ∃ x26 : Option Addr, ∃ x27 : Int, e28 = Ending.returned (.tuple #[.pointer x26, .int .i64 x27]) ∧
      pif (cond (x21 != x27) true (!((!(Option.isNone x20)) == (!(Option.isNone x26))))) (
        R (.bool false) w7) (
        jn (σ := (Option Addr) × (Option Addr) × Unit) (fun k33 =>
          pif (Option.isNone x26) (
            cl Try.prog 9 [.int .i64 3, .float .f64 4606732058837280358] w7 fun e39 w9 => ∃ x37 : Option Addr, ∃ x38 : Int, e39 = Ending.returned (.tuple #[.pointer x37, .int .i64 x38]) ∧
            cl Try.prog 20 [.int .i64 3, .float .f64 4606732058837280358] w9 fun e43 w10 => ∃ x41 : Option Addr, ∃ x42 : Int, e43 = Ending.returned (.tuple #[.pointer x41, .int .i64 x42]) ∧
            pif (cond (cond (Option.isNone x37) true (x38 != 0)) true (x42 != 0)) (
              R (.bool false) w10) (
              k33 (x37, x41, ()) w10)) (
            k33 (x20, x26, ()) w7)) fun s34 w8 => match s34 with
        | (v31, v32, _) =>
        ixA (some (⟨b4, 0, none⟩ : Addr)) 2 v8 1 fun p47 =>
        st w8 (p47.add 0) (.pointer v31) fun w11 =>
        ixA (some (⟨b6, 0, none⟩ : Addr)) 2 v8 1 fun p49 =>
        st w11 (p49.add 0) (.pointer v32) fun w12 =>
        k9 ((IntKind.wrap .i64 (v8 + 1)), ()) w12)) (
      lp (σ := Int × Unit) (fun s54 w13 k53 => match s54 with
        | (v52, _) =>
        ldC w13 ((⟨b2, 0, none⟩ : Addr).add 4) fun x56 x56n x56c =>
        pif (decide (v52 < (x56n : Int))) (
          ldC w13 ((⟨b2, 0, none⟩ : Addr).add 4) fun x58 x58n x58c =>
          ixA x58 x58n v52 3 fun p59 =>
          ldI .i64 w13 (p59.add 0) fun x60 =>
          cl Try.prog 12 [.int .i64 x60, .int .i64 2] w13 fun e62 w14 => ∃ x61 : Int, e62 = Ending.returned (.int .i64 x61) ∧
          ixA (some (⟨b4, 0, none⟩ : Addr)) 2 x61 1 fun p63 =>
          ldP (World.drew w14) p63 fun x64 =>
          ixA (some (⟨b6, 0, none⟩ : Addr)) 2 x61 1 fun p65 =>
          ldP (World.drew w14) p65 fun x66 =>
          ldC (World.drew w14) ((⟨b2, 0, none⟩ : Addr).add 4) fun x67 x67n x67c =>
          ixA x67 x67n v52 3 fun p68 =>
          ldI .i64 (World.drew w14) (p68.add 0) fun x69 =>
          ldI .i64 (World.drew w14) (p68.add 1) fun x70 =>
          ldI .i64 (World.drew w14) (p68.add 2) fun x71 =>
          cl Try.prog 21 [.pointer x64, .pointer x66, .agg #[.int .i64 x69, .int .i64 x70, .int .i64 x71]] (World.drew w14) fun e73 w15 => ∃ x72 : Bool, e73 = Ending.returned (.bool x72) ∧
          pif (!x72) (
            R (.bool false) w15) (
            k53 ((IntKind.wrap .i64 (v52 + 1)), ()) w15)) (
          ixA (some (⟨b4, 0, none⟩ : Addr)) 2 0 1 fun p77 =>
          ldP w13 p77 fun x78 =>
          ixA (some (⟨b6, 0, none⟩ : Addr)) 2 0 1 fun p79 =>
          ldP w13 p79 fun x80 =>
          cl Try.prog 22 [.pointer x78, .pointer x80] w13 fun e82 w16 => ∃ x81 : Bool, e82 = Ending.returned (.bool x81) ∧
          gd (α := Addr) x81 (fun k83 =>
            ixA (some (⟨b4, 0, none⟩ : Addr)) 2 1 1 fun p84 =>
            k83 p84 w16) ⟨0, 0, none⟩ w16 fun x85 w17 =>
          gd (α := (Option Addr)) x81 (fun k86 =>
            ldP w17 x85 fun x87 =>
            k86 x87 w17) none w17 fun x88 w18 =>
          gd (α := Addr) x81 (fun k89 =>
            ixA (some (⟨b6, 0, none⟩ : Addr)) 2 1 1 fun p90 =>
            k89 p90 w18) ⟨0, 0, none⟩ w18 fun x91 w19 =>
          gd (α := (Option Addr)) x81 (fun k92 =>
            ldP w19 x91 fun x93 =>
            k92 x93 w19) none w19 fun x94 w20 =>
          gd (α := Bool) x81 (fun k95 =>
            cl Try.prog 22 [.pointer x88, .pointer x94] w20 fun e97 w21 => ∃ x96 : Bool, e97 = Ending.returned (.bool x96) ∧
            k95 x96 w21) false w20 fun x98 w22 =>
          R (.bool (cond x81 x98 false)) w22)) (0, ()) w4)) (0, ()) w3
def An7 : An := .seq (.leaf) (.seq (.leaf) (.seq (.leaf) (.seq (.seq (.leaf) (.blk (.loop [(5, .one (.int .i64))] (.seq (.seq (.leaf) (.cond (.leaf) (.leaf))) (.seq (.blk (.seq (.leaf) (.seq (.leaf) (.seq (.leaf) (.seq (.seq (.leaf) (.cond (.seq (.leaf) (.leaf)) (.leaf))) (.seq (.join [(7, .one (.ptr)), (9, .one (.ptr))] (.seq (.leaf) (.cond (.seq (.leaf) (.seq (.leaf) (.seq (.leaf) (.cond (.seq (.leaf) (.leaf)) (.leaf))))) (.leaf)))) (.seq (.leaf) (.leaf)))))))) (.leaf)))))) (.seq (.seq (.leaf) (.blk (.loop [(11, .one (.int .i64))] (.seq (.seq (.leaf) (.cond (.leaf) (.leaf))) (.seq (.blk (.seq (.leaf) (.seq (.draw [0, 1, 3, 0, 8, 24, 0, 64, 0, 448, 960, 2047, 4095]) (.cond (.seq (.leaf) (.leaf)) (.leaf))))) (.leaf)))))) (.seq (.leaf) (.leaf))))))
theorem V7_eq (a0_0 : Int) (a0_1 : Int) (a0_2 : Nat) (a0_3 : Nat) (a0_4 : Option Addr) (a0_4n : Nat) (a0_4c : Nat) (w : World) (R : Value → World → Prop) : evF Try.prog Try.f7 An7 [.agg #[.int .i64 a0_0, .int .i64 a0_1, .float .f64 a0_2, .float .f64 a0_3, .slice a0_4 a0_4n a0_4c]] w R = V7 a0_0 a0_1 a0_2 a0_3 a0_4 a0_4n a0_4c w R := by kernel_rfl
theorem V7_calls (a0_0 : Int) (a0_1 : Int) (a0_2 : Nat) (a0_3 : Nat) (a0_4 : Option Addr) (a0_4n : Nat) (a0_4c : Nat) (w : World) (R : Value → World → Prop) (h : V7 a0_0 a0_1 a0_2 a0_3 a0_4 a0_4n a0_4c w R) : Calls Try.prog 7 #[.agg #[.int .i64 a0_0, .int .i64 a0_1, .float .f64 a0_2, .float .f64 a0_3, .slice a0_4 a0_4n a0_4c]] w fun e w' => ∃ v, e = .returned v ∧ R v w' :=
  calls_of_ev (args := [.agg #[.int .i64 a0_0, .int .i64 a0_1, .float .f64 a0_2, .float .f64 a0_3, .slice a0_4 a0_4n a0_4c]]) Try.func7 (Nat.le_of_ble_eq_true (by kernel_rfl)) (by rw [V7_eq]; exact h)
theorem ok7 : fnOk Try.prog 7 = true := by kernel_rfl

/-! depot/depotlaw14.HeatOrders -/
def V8 (a0_0 : Int) (a0_1 : Nat) (a0_2 : Option Addr) (a0_2n : Nat) (a0_2c : Nat) (w : World) (R : Value → World → Prop) : Prop :=
  alc w [.int .i64 a0_0, .float .f64 a0_1, .slice a0_2 a0_2n a0_2c] 38 fun b2 w1 =>
  ldI .i64 w1 ((⟨b2, 0, none⟩ : Addr).add 0) fun x4 =>
  ldF .f64 w1 ((⟨b2, 0, none⟩ : Addr).add 1) fun x5 =>
  ldC w1 ((⟨b2, 0, none⟩ : Addr).add 2) fun x6 x6n x6c =>
  cl Try.prog 16 [.int .i64 x4, .float .f64 x5, .slice x6 x6n x6c, .slice none 0 0] w1 fun e9 w2 => ∃ x7 : Option Addr, ∃ (x8 : Option Addr) (x8n x8c : Nat), e9 = Ending.returned (.tuple #[.pointer x7, .slice x8 x8n x8c]) ∧
  gd (α := Bool) (!(Option.isNone x7)) (fun k11 =>
    cl Try.prog 10 [.pointer x7, .int .i64 1] w2 fun e13 w3 => ∃ x12 : Bool, e13 = Ending.returned (.bool x12) ∧
    k11 x12 w3) false w2 fun x14 w4 =>
  gd (α := Int) ((!(Option.isNone x7)) && (!x14)) (fun k15 =>
    ldI .i64 w4 ((⟨b2, 0, none⟩ : Addr).add 0) fun x16 =>
    k15 x16 w4) 0 w4 fun x17 w5 =>
  gd (α := Int) ((!(Option.isNone x7)) && (!x14)) (fun k18 =>
    cl Try.prog 12 [.int .i64 x17, .int .i64 61] w5 fun e20 w6 => ∃ x19 : Int, e20 = Ending.returned (.int .i64 x19) ∧
    k18 x19 w6) 0 w5 fun x21 w7 =>
  gd (α := (Option Addr × Nat × Nat)) ((!(Option.isNone x7)) && (cond (!x14) (decide (x21 > 0)) false)) (fun k22 =>
    ldC w7 ((⟨b2, 0, none⟩ : Addr).add 2) fun x23 x23n x23c =>
    k22 (x23, x23n, x23c) w7) (none, 0, 0) w7 fun x24 w8 =>
  pif (cond (Option.isNone x7) true (cond (cond (!x14) (decide (x21 > 0)) false) ((x24.2.1 : Int) == 0) false)) (
    R (.bool false) w8) (
    ldI .i64 w8 ((⟨b2, 0, none⟩ : Addr).add 0) fun x27 =>
    cl Try.prog 12 [.int .i64 x27, .int .i64 61] w8 fun e29 w9 => ∃ x28 : Int, e29 = Ending.returned (.int .i64 x28) ∧
    cl Try.prog 15 [.pointer x7] w9 fun e32 w10 => ∃ (x31 : Option Addr) (x31n x31c : Nat), e32 = Ending.returned (.slice x31 x31n x31c) ∧
    lp (σ := Int × Int × Unit) (fun s38 w11 k37 => match s38 with
      | (v35, v36, _) =>
      pif (decide (v36 ≤ x28)) (
        jn (σ := Int × Unit) (fun k41 =>
          cl Try.prog 11 [.pointer x7, .int .i64 v36] w11 fun e46 w13 => ∃ x44 : Nat, ∃ x45 : Int, e46 = Ending.returned (.tuple #[.float .f64 x44, .int .i64 x45]) ∧
          gd (α := Bool) (!(cond (x45 != 0) true (!(cond ((FloatKind.format .f64).order x44 0 == some .gt || (FloatKind.format .f64).order x44 0 == some .eq) ((FloatKind.format .f64).order x44 6103021453049119613 == some .lt || (FloatKind.format .f64).order x44 6103021453049119613 == some .eq) false)))) (fun k48 =>
            cl Try.prog 10 [.pointer x7, .int .i64 v36] w13 fun e50 w14 => ∃ x49 : Bool, e50 = Ending.returned (.bool x49) ∧
            k48 x49 w14) false w13 fun x51 w15 =>
          gd (α := Bool) (!(cond (x45 != 0) true (!(cond ((FloatKind.format .f64).order x44 0 == some .gt || (FloatKind.format .f64).order x44 0 == some .eq) ((FloatKind.format .f64).order x44 6103021453049119613 == some .lt || (FloatKind.format .f64).order x44 6103021453049119613 == some .eq) false)))) (fun k52 =>
            cl Try.prog 23 [.slice x31 x31n x31c, .int .i64 v36] w15 fun e54 w16 => ∃ x53 : Bool, e54 = Ending.returned (.bool x53) ∧
            k52 x53 w16) false w15 fun x55 w17 =>
          pif (cond (cond (x45 != 0) true (!(cond ((FloatKind.format .f64).order x44 0 == some .gt || (FloatKind.format .f64).order x44 0 == some .eq) ((FloatKind.format .f64).order x44 6103021453049119613 == some .lt || (FloatKind.format .f64).order x44 6103021453049119613 == some .eq) false))) true (!(x51 == x55))) (
            R (.bool false) w17) (
            cl Try.prog 10 [.pointer x7, .int .i64 v36] w17 fun e59 w18 => ∃ x58 : Bool, e59 = Ending.returned (.bool x58) ∧
            pif x58 (
              k41 ((IntKind.wrap .i64 (v35 + 1)), ()) w18) (
              k41 (v35, ()) w18))) fun s42 w12 => match s42 with
        | (v40, _) =>
        k37 (v40, (IntKind.wrap .i64 (v36 + 1)), ()) w12) (
        pif ((x31n : Int) != v35) (
          R (.bool false) w11) (
          lp (σ := Int × Unit) (fun s67 w19 k66 => match s67 with
            | (v65, _) =>
            pif (decide (v65 < (x31n : Int))) (
              gd (α := Addr) (decide (v65 > 0)) (fun k69 =>
                ixA x31 x31n (IntKind.wrap .i64 (v65 - 1)) 1 fun p70 =>
                k69 p70 (World.drew w19)) ⟨0, 0, none⟩ (World.drew w19) fun x71 _ =>
              gd (α := Int) (decide (v65 > 0)) (fun k72 =>
                ldI .i64 (World.drew w19) x71 fun x73 =>
                k72 x73 (World.drew w19)) 0 (World.drew w19) fun x74 _ =>
              gd (α := Addr) (decide (v65 > 0)) (fun k75 =>
                ixA x31 x31n v65 1 fun p76 =>
                k75 p76 (World.drew w19)) ⟨0, 0, none⟩ (World.drew w19) fun x77 _ =>
              gd (α := Int) (decide (v65 > 0)) (fun k78 =>
                ldI .i64 (World.drew w19) x77 fun x79 =>
                k78 x79 (World.drew w19)) 0 (World.drew w19) fun x80 _ =>
              gd (α := Bool) (decide (v65 > 0)) (fun k81 =>
                cl Try.prog 24 [.pointer x7, .int .i64 x74, .int .i64 x80] (World.drew w19) fun e83 w20 => ∃ x82 : Bool, e83 = Ending.returned (.bool x82) ∧
                k81 x82 w20) false (World.drew w19) fun x84 w21 =>
              pif (cond (decide (v65 > 0)) (!x84) false) (
                R (.bool false) w21) (
                k66 ((IntKind.wrap .i64 (v65 + 1)), ()) w21)) (
              lp (σ := Int × Unit) (fun s90 w22 k89 => match s90 with
                | (v88, _) =>
                pif (decide (v88 < (x31n : Int))) (
                  cl Try.prog 25 [.pointer x7] w22 fun e95 w23 => ∃ x93 : Int, ∃ x94 : Bool, e95 = Ending.returned (.tuple #[.int .i64 x93, .bool x94]) ∧
                  gd (α := Addr) (!(!x94)) (fun k97 =>
                    ixA x31 x31n v88 1 fun p98 =>
                    k97 p98 w23) ⟨0, 0, none⟩ w23 fun x99 w24 =>
                  gd (α := Int) (!(!x94)) (fun k100 =>
                    ldI .i64 w24 x99 fun x101 =>
                    k100 x101 w24) 0 w24 fun x102 w25 =>
                  gd (α := Bool) (!(cond (!x94) true (x93 != x102))) (fun k103 =>
                    cl Try.prog 10 [.pointer x7, .int .i64 x93] w25 fun e105 w26 => ∃ x104 : Bool, e105 = Ending.returned (.bool x104) ∧
                    k103 x104 w26) false w25 fun x106 w27 =>
                  pif (cond (cond (!x94) true (x93 != x102)) true x106) (
                    R (.bool false) w27) (
                    k89 ((IntKind.wrap .i64 (v88 + 1)), ()) w27)) (
                  cl Try.prog 25 [.pointer x7] w22 fun e112 w28 => ∃ x110 : Int, ∃ x111 : Bool, e112 = Ending.returned (.tuple #[.int .i64 x110, .bool x111]) ∧
                  pif x111 (
                    R (.bool false) w28) (
                    lp (σ := Int × Unit) (fun s118 w29 k117 => match s118 with
                      | (v116, _) =>
                      pif (decide (v116 ≥ 0)) (
                        ixA x31 x31n v116 1 fun p121 =>
                        ldI .i64 w29 p121 fun x122 =>
                        cl Try.prog 26 [.pointer x7, .int .i64 x122] w29 fun e124 w30 => ∃ x123 : Int, e124 = Ending.returned (.int .i64 x123) ∧
                        pif (x123 != 0) (
                          R (.bool false) w30) (
                          k117 ((IntKind.wrap .i64 (v116 - 1)), ()) w30)) (
                        cl Try.prog 15 [.pointer x7] w29 fun e129 w31 => ∃ (x128 : Option Addr) (x128n x128c : Nat), e129 = Ending.returned (.slice x128 x128n x128c) ∧
                        cl Try.prog 18 [.slice x128 x128n x128c, .slice x31 x31n x31c] w31 fun e131 w32 => ∃ x130 : Bool, e131 = Ending.returned (.bool x130) ∧
                        R (.bool x130) w32)) ((IntKind.wrap .i64 ((x31n : Int) - 1)), ()) w28))) (0, ()) w19)) (0, ()) w11))) (0, 1, ()) w10)
def An8 : An := .seq (.leaf) (.seq (.leaf) (.seq (.seq (.leaf) (.cond (.seq (.leaf) (.leaf)) (.leaf))) (.seq (.leaf) (.seq (.leaf) (.seq (.leaf) (.seq (.seq (.leaf) (.blk (.loop [(7, .one (.int .i64)), (8, .one (.int .i64))] (.seq (.seq (.leaf) (.cond (.leaf) (.leaf))) (.seq (.join [(7, .one (.int .i64))] (.blk (.seq (.leaf) (.seq (.seq (.leaf) (.cond (.seq (.leaf) (.leaf)) (.leaf))) (.seq (.leaf) (.cond (.leaf) (.leaf))))))) (.leaf)))))) (.seq (.seq (.leaf) (.cond (.seq (.leaf) (.leaf)) (.leaf))) (.seq (.seq (.leaf) (.blk (.loop [(11, .one (.int .i64))] (.seq (.seq (.leaf) (.cond (.leaf) (.leaf))) (.seq (.blk (.seq (.draw [0, 1, 3, 7, 7, 7, 39, 119, 247, 7, 7, 1543, 3591, 8191, 16383, 32767]) (.cond (.seq (.leaf) (.leaf)) (.leaf)))) (.leaf)))))) (.seq (.seq (.leaf) (.blk (.loop [(12, .one (.int .i64))] (.seq (.seq (.leaf) (.cond (.leaf) (.leaf))) (.seq (.blk (.seq (.leaf) (.seq (.leaf) (.cond (.seq (.leaf) (.leaf)) (.leaf))))) (.leaf)))))) (.seq (.leaf) (.seq (.seq (.leaf) (.cond (.seq (.leaf) (.leaf)) (.leaf))) (.seq (.seq (.leaf) (.blk (.loop [(17, .one (.int .i64))] (.seq (.seq (.leaf) (.cond (.leaf) (.leaf))) (.seq (.blk (.seq (.leaf) (.cond (.seq (.leaf) (.leaf)) (.leaf)))) (.leaf)))))) (.seq (.leaf) (.leaf))))))))))))))
theorem V8_eq (a0_0 : Int) (a0_1 : Nat) (a0_2 : Option Addr) (a0_2n : Nat) (a0_2c : Nat) (w : World) (R : Value → World → Prop) : evF Try.prog Try.f8 An8 [.agg #[.int .i64 a0_0, .float .f64 a0_1, .slice a0_2 a0_2n a0_2c]] w R = V8 a0_0 a0_1 a0_2 a0_2n a0_2c w R := by kernel_rfl
theorem V8_calls (a0_0 : Int) (a0_1 : Nat) (a0_2 : Option Addr) (a0_2n : Nat) (a0_2c : Nat) (w : World) (R : Value → World → Prop) (h : V8 a0_0 a0_1 a0_2 a0_2n a0_2c w R) : Calls Try.prog 8 #[.agg #[.int .i64 a0_0, .float .f64 a0_1, .slice a0_2 a0_2n a0_2c]] w fun e w' => ∃ v, e = .returned v ∧ R v w' :=
  calls_of_ev (args := [.agg #[.int .i64 a0_0, .float .f64 a0_1, .slice a0_2 a0_2n a0_2c]]) Try.func8 (Nat.le_of_ble_eq_true (by kernel_rfl)) (by rw [V8_eq]; exact h)
theorem ok8 : fnOk Try.prog 8 = true := by kernel_rfl

/-! (*depot/heat.Heat).Order -/
def V15 (a0 : Option Addr) (w : World) (R : Value → World → Prop) : Prop :=
  alc w [.pointer a0] 23 fun b2 w1 =>
  ldP w1 (⟨b2, 0, none⟩ : Addr) fun x4 =>
  nn x4 fun p5 =>
  ldC w1 ((p5.add 3).add 0) fun x6 x6n x6c =>
  cl Try.prog 33 [.slice x6 x6n x6c] w1 fun e8 w2 => ∃ (x7 : Option Addr) (x7n x7c : Nat), e8 = Ending.returned (.slice x7 x7n x7c) ∧
  cl Try.prog 34 [.slice x7 x7n x7c, .func (.func 35) #[] #[.pointer (some (⟨b2, 0, none⟩ : Addr))]] w2 fun e10 w3 => e10 = Ending.returned (.tuple #[]) ∧
  R (.slice x7 x7n x7c) w3
def An15 : An := .seq (.leaf) (.seq (.leaf) (.seq (.leaf) (.seq (.leaf) (.leaf))))
theorem V15_eq (a0 : Option Addr) (w : World) (R : Value → World → Prop) : evF Try.prog Try.f15 An15 [.pointer a0] w R = V15 a0 w R := by kernel_rfl
theorem V15_calls (a0 : Option Addr) (w : World) (R : Value → World → Prop) (h : V15 a0 w R) : Calls Try.prog 15 #[.pointer a0] w fun e w' => ∃ v, e = .returned v ∧ R v w' :=
  calls_of_ev (args := [.pointer a0]) Try.func15 (Nat.le_of_ble_eq_true (by kernel_rfl)) (by rw [V15_eq]; exact h)
theorem ok15 : fnOk Try.prog 15 = true := by kernel_rfl

/-! depot/depotlaw14.run -/
def V16 (a0 : Int) (a1 : Nat) (a2 : Option Addr) (a2n : Nat) (a2c : Nat) (a3 : Option Addr) (a3n : Nat) (a3c : Nat) (w : World) (R : Value → World → Prop) : Prop :=
  jn (σ := Nat × Unit) (fun k3 =>
    pif (!(cond ((FloatKind.format .f64).order a1 4602678819172646912 == some .gt || (FloatKind.format .f64).order a1 4602678819172646912 == some .eq) ((FloatKind.format .f64).order a1 4607182418800017408 == some .lt || (FloatKind.format .f64).order a1 4607182418800017408 == some .eq) false)) (
      k3 (4606732058837280358, ()) w) (
      k3 (a1, ()) w)) fun s4 w1 => match s4 with
  | (v2, _) =>
  cl Try.prog 12 [.int .i64 a0, .int .i64 61] w1 fun e9 w2 => ∃ x8 : Int, e9 = Ending.returned (.int .i64 x8) ∧
  cl Try.prog 9 [.int .i64 x8, .float .f64 v2] w2 fun e12 w3 => ∃ x10 : Option Addr, ∃ x11 : Int, e12 = Ending.returned (.tuple #[.pointer x10, .int .i64 x11]) ∧
  pif (cond (Option.isNone x10) true (x11 != 0)) (
    R (.tuple #[.pointer none, .slice a3 a3n a3c]) w3) (
    lp (σ := (Option Addr × Nat × Nat) × Int × Unit) (fun s19 w4 k18 => match s19 with
      | ((v16, v16n, v16c), v17, _) =>
      pif (decide (v17 < (a2n : Int))) (
        jn (σ := (Option Addr × Nat × Nat) × Unit) (fun k22 =>
          ixA a2 a2n v17 3 fun p25 =>
          ldI .i64 w4 (p25.add 1) fun x26 =>
          cl Try.prog 12 [.int .i64 x26, .int .i64 5] w4 fun e28 w6 => ∃ x27 : Int, e28 = Ending.returned (.int .i64 x27) ∧
          pif (x27 == 0) (
            ixA a2 a2n v17 3 fun p31 =>
            ldI .i64 w6 (p31.add 2) fun x32 =>
            cl Try.prog 13 [.pointer x10, .int .i64 x32] w6 fun e34 w7 => ∃ x33 : Int, e34 = Ending.returned (.int .i64 x33) ∧
            k22 ((v16, v16n, v16c), ()) w7) (
            pif (x27 == 1) (
              lp (σ := Int × Unit) (fun s39 w8 k38 => match s39 with
                | (v37, _) =>
                ixA a2 a2n v17 3 fun p41 =>
                ldI .i64 w8 (p41.add 2) fun x42 =>
                cl Try.prog 12 [.int .i64 x42, .int .i64 400] w8 fun e44 w9 => ∃ x43 : Int, e44 = Ending.returned (.int .i64 x43) ∧
                pif (decide (v37 < x43)) (
                  cl Try.prog 14 [.pointer x10] w9 fun e46 w10 => e46 = Ending.returned (.tuple #[]) ∧
                  k38 ((IntKind.wrap .i64 (v37 + 1)), ()) w10) (
                  k22 ((v16, v16n, v16c), ()) w9)) (0, ()) w6) (
              pif (x27 == 2) (
                cl Try.prog 25 [.pointer x10] w6 fun e52 w11 => ∃ x50 : Int, ∃ x51 : Bool, e52 = Ending.returned (.tuple #[.int .i64 x50, .bool x51]) ∧
                k22 ((v16, v16n, v16c), ()) w11) (
                pif (x27 == 3) (
                  ixA a2 a2n v17 3 fun p55 =>
                  ldI .i64 w6 (p55.add 2) fun x56 =>
                  cl Try.prog 26 [.pointer x10, .int .i64 x56] w6 fun e58 w12 => ∃ x57 : Int, e58 = Ending.returned (.int .i64 x57) ∧
                  k22 ((v16, v16n, v16c), ()) w12) (
                  cl Try.prog 15 [.pointer x10] w6 fun e61 w13 => ∃ (x60 : Option Addr) (x60n x60c : Nat), e61 = Ending.returned (.slice x60 x60n x60c) ∧
                  alc w13 [.slice x60 x60n x60c] 33 fun b62 w14 =>
                  ∃ (x63 : Option Addr) (x63n x63c : Nat), ∃ w15 : World, (Builtin.append_ #[39, 39] 39 #[.slice v16 v16n v16c, .slice (some (⟨b62, 0, none⟩ : Addr)) 1 1]).run Try.prog w14 = .ok (.slice x63 x63n x63c) w15 ∧
                  k22 ((x63, x63n, x63c), ()) w15))))) fun s23 w5 => match s23 with
        | ((v21, v21n, v21c), _) =>
        k18 ((v21, v21n, v21c), (IntKind.wrap .i64 (v17 + 1)), ()) w5) (
        R (.tuple #[.pointer x10, .slice v16 v16n v16c]) w4)) ((a3, a3n, a3c), 0, ()) w3)
def An16 : An := .seq (.leaf) (.seq (.join [(1, .one (.flt .f64))] (.seq (.leaf) (.cond (.leaf) (.leaf)))) (.seq (.leaf) (.seq (.seq (.leaf) (.cond (.seq (.leaf) (.leaf)) (.leaf))) (.seq (.seq (.leaf) (.blk (.loop [(3, .one (.slc)), (12, .one (.int .i64))] (.seq (.seq (.leaf) (.cond (.leaf) (.leaf))) (.seq (.join [(3, .one (.slc))] (.blk (.seq (.leaf) (.blk (.seq (.leaf) (.cond (.leaf) (.seq (.leaf) (.cond (.seq (.leaf) (.blk (.loop [(13, .one (.int .i64))] (.seq (.seq (.leaf) (.cond (.leaf) (.leaf))) (.seq (.blk (.leaf)) (.leaf)))))) (.seq (.leaf) (.cond (.leaf) (.seq (.leaf) (.cond (.leaf) (.leaf))))))))))))) (.leaf)))))) (.seq (.leaf) (.leaf))))))
theorem V16_eq (a0 : Int) (a1 : Nat) (a2 : Option Addr) (a2n : Nat) (a2c : Nat) (a3 : Option Addr) (a3n : Nat) (a3c : Nat) (w : World) (R : Value → World → Prop) : evF Try.prog Try.f16 An16 [.int .i64 a0, .float .f64 a1, .slice a2 a2n a2c, .slice a3 a3n a3c] w R = V16 a0 a1 a2 a2n a2c a3 a3n a3c w R := by kernel_rfl
theorem V16_calls (a0 : Int) (a1 : Nat) (a2 : Option Addr) (a2n : Nat) (a2c : Nat) (a3 : Option Addr) (a3n : Nat) (a3c : Nat) (w : World) (R : Value → World → Prop) (h : V16 a0 a1 a2 a2n a2c a3 a3n a3c w R) : Calls Try.prog 16 #[.int .i64 a0, .float .f64 a1, .slice a2 a2n a2c, .slice a3 a3n a3c] w fun e w' => ∃ v, e = .returned v ∧ R v w' :=
  calls_of_ev (args := [.int .i64 a0, .float .f64 a1, .slice a2 a2n a2c, .slice a3 a3n a3c]) Try.func16 (Nat.le_of_ble_eq_true (by kernel_rfl)) (by rw [V16_eq]; exact h)
theorem ok16 : fnOk Try.prog 16 = true := by kernel_rfl

/-! depot/depotref00.CopyInts -/
def V17 (a0 : Option Addr) (a0n : Nat) (a0c : Nat) (w : World) (R : Value → World → Prop) : Prop :=
  lp (σ := (Option Addr × Nat × Nat) × Int × Unit) (fun s7 w1 k6 => match s7 with
    | ((v4, v4n, v4c), v5, _) =>
    pif (decide (v5 < (a0n : Int))) (
      ixA a0 a0n v5 1 fun p10 =>
      ldI .i64 w1 p10 fun x11 =>
      alc w1 [.int .i64 x11] 3 fun b12 w2 =>
      ∃ (x13 : Option Addr) (x13n x13c : Nat), ∃ w3 : World, (Builtin.append_ #[33, 33] 33 #[.slice v4 v4n v4c, .slice (some (⟨b12, 0, none⟩ : Addr)) 1 1]).run Try.prog w2 = .ok (.slice x13 x13n x13c) w3 ∧
      k6 ((x13, x13n, x13c), (IntKind.wrap .i64 (v5 + 1)), ()) w3) (
      R (.slice v4 v4n v4c) w1)) ((none, 0, 0), 0, ()) w
def An17 : An := .seq (.leaf) (.seq (.leaf) (.seq (.seq (.leaf) (.blk (.loop [(3, .one (.slc)), (4, .one (.int .i64))] (.seq (.seq (.leaf) (.cond (.leaf) (.leaf))) (.seq (.blk (.leaf)) (.leaf)))))) (.seq (.leaf) (.leaf))))
theorem V17_eq (a0 : Option Addr) (a0n : Nat) (a0c : Nat) (w : World) (R : Value → World → Prop) : evF Try.prog Try.f17 An17 [.slice a0 a0n a0c] w R = V17 a0 a0n a0c w R := by kernel_rfl
theorem V17_calls (a0 : Option Addr) (a0n : Nat) (a0c : Nat) (w : World) (R : Value → World → Prop) (h : V17 a0 a0n a0c w R) : Calls Try.prog 17 #[.slice a0 a0n a0c] w fun e w' => ∃ v, e = .returned v ∧ R v w' :=
  calls_of_ev (args := [.slice a0 a0n a0c]) Try.func17 (Nat.le_of_ble_eq_true (by kernel_rfl)) (by rw [V17_eq]; exact h)
theorem ok17 : fnOk Try.prog 17 = true := by kernel_rfl

/-! depot/depotref00.SameInts -/
def V18 (a0 : Option Addr) (a0n : Nat) (a0c : Nat) (a1 : Option Addr) (a1n : Nat) (a1c : Nat) (w : World) (R : Value → World → Prop) : Prop :=
  pif ((a0n : Int) != (a1n : Int)) (
    R (.bool false) w) (
    lp (σ := Int × Unit) (fun s7 w1 k6 => match s7 with
      | (v5, _) =>
      pif (decide (v5 < (a0n : Int))) (
        ixA a0 a0n v5 1 fun p9 =>
        ldI .i64 (World.drew w1) p9 fun x10 =>
        ixA a1 a1n v5 1 fun p11 =>
        ldI .i64 (World.drew w1) p11 fun x12 =>
        pif (x10 != x12) (
          R (.bool false) (World.drew w1)) (
          k6 ((IntKind.wrap .i64 (v5 + 1)), ()) (World.drew w1))) (
        R (.bool true) w1)) (0, ()) w)
def An18 : An := .seq (.leaf) (.seq (.seq (.leaf) (.cond (.seq (.leaf) (.leaf)) (.leaf))) (.seq (.seq (.leaf) (.blk (.loop [(5, .one (.int .i64))] (.seq (.seq (.leaf) (.cond (.leaf) (.leaf))) (.seq (.blk (.seq (.draw [0, 0, 3, 7, 0, 0, 48, 112, 255]) (.cond (.seq (.leaf) (.leaf)) (.leaf)))) (.leaf)))))) (.seq (.leaf) (.leaf))))
theorem V18_eq (a0 : Option Addr) (a0n : Nat) (a0c : Nat) (a1 : Option Addr) (a1n : Nat) (a1c : Nat) (w : World) (R : Value → World → Prop) : evF Try.prog Try.f18 An18 [.slice a0 a0n a0c, .slice a1 a1n a1c] w R = V18 a0 a0n a0c a1 a1n a1c w R := by kernel_rfl
theorem V18_calls (a0 : Option Addr) (a0n : Nat) (a0c : Nat) (a1 : Option Addr) (a1n : Nat) (a1c : Nat) (w : World) (R : Value → World → Prop) (h : V18 a0 a0n a0c a1 a1n a1c w R) : Calls Try.prog 18 #[.slice a0 a0n a0c, .slice a1 a1n a1c] w fun e w' => ∃ v, e = .returned v ∧ R v w' :=
  calls_of_ev (args := [.slice a0 a0n a0c, .slice a1 a1n a1c]) Try.func18 (Nat.le_of_ble_eq_true (by kernel_rfl)) (by rw [V18_eq]; exact h)
theorem ok18 : fnOk Try.prog 18 = true := by kernel_rfl

/-! depot/depotkit.ApartInts -/
def V19 (a0 : Option Addr) (a0n : Nat) (a0c : Nat) (w : World) (R : Value → World → Prop) : Prop :=
  lp (σ := Int × Unit) (fun s5 w1 k4 => match s5 with
    | (v3, _) =>
    pif (decide (v3 < (a0n : Int))) (
      lp (σ := Int × Unit) (fun s10 w2 k9 => match s10 with
        | (v8, _) =>
        ixA a0 a0n v3 1 fun p12 =>
        ldC w2 p12 fun x13 x13n x13c =>
        pif (decide (v8 < (x13n : Int))) (
          ixA a0 a0n v3 1 fun p14 =>
          ldC (World.drew w2) p14 fun x15 x15n x15c =>
          cl Try.prog 36 [.int .i64 v3, .int .i64 v8] (World.drew w2) fun e17 w3 => ∃ x16 : Int, e17 = Ending.returned (.int .i64 x16) ∧
          (
            ldC w3 p14 fun x18 x18n x18c =>
            ((.slice x18 x18n x18c : Value) = .slice x15 x15n x15c)) ∧
          ixA x15 x15n v8 1 fun p19 =>
          st w3 (p19.add 0) (.int .i64 x16) fun w4 =>
          k9 ((IntKind.wrap .i64 (v8 + 1)), ()) w4) (
          k4 ((IntKind.wrap .i64 (v3 + 1)), ()) w2)) (0, ()) w1) (
      lp (σ := (Option Addr × Nat × Nat) × Int × Unit) (fun s27 w5 k26 => match s27 with
        | ((v24, v24n, v24c), v25, _) =>
        pif (decide (v25 < (a0n : Int))) (
          ixA a0 a0n v25 1 fun p30 =>
          ldC w5 p30 fun x31 x31n x31c =>
          lp (σ := (Option Addr × Nat × Nat) × Int × Unit) (fun s36 w6 k35 => match s36 with
            | ((v33, v33n, v33c), v34, _) =>
            pif (decide (v34 < 64)) (
              ixA a0 a0n v25 1 fun p39 =>
              ldC w6 p39 fun x40 x40n x40c =>
              cl Try.prog 36 [.int .i64 v25, .int .i64 (IntKind.wrap .i64 ((x40n : Int) + v34))] w6 fun e42 w7 => ∃ x41 : Int, e42 = Ending.returned (.int .i64 x41) ∧
              alc w7 [.int .i64 x41] 3 fun b43 w8 =>
              ∃ (x44 : Option Addr) (x44n x44c : Nat), ∃ w9 : World, (Builtin.append_ #[33, 33] 33 #[.slice v33 v33n v33c, .slice (some (⟨b43, 0, none⟩ : Addr)) 1 1]).run Try.prog w8 = .ok (.slice x44 x44n x44c) w9 ∧
              k35 ((x44, x44n, x44c), (IntKind.wrap .i64 (v34 + 1)), ()) w9) (
              alc w6 [.slice v33 v33n v33c] 33 fun b47 w10 =>
              ∃ (x48 : Option Addr) (x48n x48c : Nat), ∃ w11 : World, (Builtin.append_ #[39, 39] 39 #[.slice v24 v24n v24c, .slice (some (⟨b47, 0, none⟩ : Addr)) 1 1]).run Try.prog w10 = .ok (.slice x48 x48n x48c) w11 ∧
              k26 ((x48, x48n, x48c), (IntKind.wrap .i64 (v25 + 1)), ()) w11)) ((x31, x31n, x31c), 0, ()) w5) (
          lp (σ := Int × Unit) (fun s53 w12 k52 => match s53 with
            | (v51, _) =>
            pif (decide (v51 < (a0n : Int))) (
              lp (σ := Int × Unit) (fun s58 w13 k57 => match s58 with
                | (v56, _) =>
                ixA v24 v24n v51 1 fun p60 =>
                ldC w13 p60 fun x61 x61n x61c =>
                pif (decide (v56 < (x61n : Int))) (
                  ixA v24 v24n v51 1 fun p62 =>
                  ldC (World.drew w13) p62 fun x63 x63n x63c =>
                  ixA x63 x63n v56 1 fun p64 =>
                  ldI .i64 (World.drew w13) p64 fun x65 =>
                  cl Try.prog 36 [.int .i64 v51, .int .i64 v56] (World.drew w13) fun e67 w14 => ∃ x66 : Int, e67 = Ending.returned (.int .i64 x66) ∧
                  (
                    ldI .i64 w14 p64 fun x68 =>
                    ((.int .i64 x68 : Value) = .int .i64 x65)) ∧
                  (
                    ldC w14 p62 fun x69 x69n x69c =>
                    ((.slice x69 x69n x69c : Value) = .slice x63 x63n x63c)) ∧
                  gd (α := Addr) (!(!(x65 == x66))) (fun k70 =>
                    ixA a0 a0n v51 1 fun p71 =>
                    k70 p71 w14) ⟨0, 0, none⟩ w14 fun x72 _ =>
                  gd (α := (Option Addr × Nat × Nat)) (!(!(x65 == x66))) (fun k73 =>
                    ldC w14 x72 fun x74 x74n x74c =>
                    k73 (x74, x74n, x74c) w14) (none, 0, 0) w14 fun x75 _ =>
                  gd (α := Addr) ((!(!(x65 == x66))) && (decide (v56 < (x75.2.1 : Int)))) (fun k76 =>
                    ixA a0 a0n v51 1 fun p77 =>
                    k76 p77 w14) ⟨0, 0, none⟩ w14 fun x78 _ =>
                  gd (α := (Option Addr × Nat × Nat)) ((!(!(x65 == x66))) && (decide (v56 < (x75.2.1 : Int)))) (fun k79 =>
                    ldC w14 x78 fun x80 x80n x80c =>
                    k79 (x80, x80n, x80c) w14) (none, 0, 0) w14 fun x81 _ =>
                  gd (α := Addr) ((!(!(x65 == x66))) && (decide (v56 < (x75.2.1 : Int)))) (fun k82 =>
                    ixA x81.1 x81.2.1 v56 1 fun p83 =>
                    k82 p83 w14) ⟨0, 0, none⟩ w14 fun x84 _ =>
                  gd (α := Int) ((!(!(x65 == x66))) && (decide (v56 < (x75.2.1 : Int)))) (fun k85 =>
                    ldI .i64 w14 x84 fun x86 =>
                    k85 x86 w14) 0 w14 fun x87 _ =>
                  gd (α := Int) ((!(!(x65 == x66))) && (decide (v56 < (x75.2.1 : Int)))) (fun k88 =>
                    cl Try.prog 36 [.int .i64 v51, .int .i64 v56] w14 fun e90 w15 => ∃ x89 : Int, e90 = Ending.returned (.int .i64 x89) ∧
                    k88 x89 w15) 0 w14 fun x91 w16 =>
                  (((!(!(x65 == x66))) && (decide (v56 < (x75.2.1 : Int)))) = true →
                    ldI .i64 w16 x84 fun x92 =>
                    ((.int .i64 x92 : Value) = .int .i64 x87)) ∧
                  (((!(!(x65 == x66))) && (decide (v56 < (x75.2.1 : Int)))) = true →
                    ldC w16 x78 fun x93 x93n x93c =>
                    ((.slice x93 x93n x93c : Value) = .slice x81.1 x81.2.1 x81.2.2)) ∧
                  pif (cond (!(x65 == x66)) true (cond (decide (v56 < (x75.2.1 : Int))) (!(x87 == x91)) false)) (
                    R (.bool false) w16) (
                    k57 ((IntKind.wrap .i64 (v56 + 1)), ()) w16)) (
                  k52 ((IntKind.wrap .i64 (v51 + 1)), ()) w13)) (0, ()) w12) (
              lp (σ := Int × Unit) (fun s100 w17 k99 => match s100 with
                | (v98, _) =>
                pif (decide (v98 < (a0n : Int))) (
                  lp (σ := (Option Addr × Nat × Nat) × Int × Unit) (fun s107 w18 k106 => match s107 with
                    | ((v104, v104n, v104c), v105, _) =>
                    pif (decide (v105 < 64)) (
                      cl Try.prog 36 [.int .i64 (IntKind.wrap .i64 (v98 + (a0n : Int))), .int .i64 v105] w18 fun e111 w19 => ∃ x110 : Int, e111 = Ending.returned (.int .i64 x110) ∧
                      alc w19 [.int .i64 x110] 3 fun b112 w20 =>
                      ∃ (x113 : Option Addr) (x113n x113c : Nat), ∃ w21 : World, (Builtin.append_ #[33, 33] 33 #[.slice v104 v104n v104c, .slice (some (⟨b112, 0, none⟩ : Addr)) 1 1]).run Try.prog w20 = .ok (.slice x113 x113n x113c) w21 ∧
                      k106 ((x113, x113n, x113c), (IntKind.wrap .i64 (v105 + 1)), ()) w21) (
                      ixA a0 a0n v98 1 fun p116 =>
                      ldC w18 p116 fun x117 x117n x117c =>
                      ∃ (x118 : Option Addr) (x118n x118c : Nat), ∃ w22 : World, (Builtin.append_ #[33, 33] 33 #[.slice x117 x117n x117c, .slice v104 v104n v104c]).run Try.prog w18 = .ok (.slice x118 x118n x118c) w22 ∧
                      ixA v24 v24n v98 1 fun p119 =>
                      st w22 (p119.add 0) (.slice x118 x118n x118c) fun w23 =>
                      k99 ((IntKind.wrap .i64 (v98 + 1)), ()) w23)) ((none, 0, 0), 0, ()) w17) (
                  lp (σ := Int × Unit) (fun s124 w24 k123 => match s124 with
                    | (v122, _) =>
                    pif (decide (v122 < (a0n : Int))) (
                      lp (σ := Int × Unit) (fun s129 w25 k128 => match s129 with
                        | (v127, _) =>
                        ixA a0 a0n v122 1 fun p131 =>
                        ldC w25 p131 fun x132 x132n x132c =>
                        pif (decide (v127 < (x132n : Int))) (
                          ixA a0 a0n v122 1 fun p133 =>
                          ldC (World.drew w25) p133 fun x134 x134n x134c =>
                          ixA x134 x134n v127 1 fun p135 =>
                          ldI .i64 (World.drew w25) p135 fun x136 =>
                          cl Try.prog 36 [.int .i64 v122, .int .i64 v127] (World.drew w25) fun e138 w26 => ∃ x137 : Int, e138 = Ending.returned (.int .i64 x137) ∧
                          (
                            ldI .i64 w26 p135 fun x139 =>
                            ((.int .i64 x139 : Value) = .int .i64 x136)) ∧
                          (
                            ldC w26 p133 fun x140 x140n x140c =>
                            ((.slice x140 x140n x140c : Value) = .slice x134 x134n x134c)) ∧
                          gd (α := Addr) (!(!(x136 == x137))) (fun k141 =>
                            ixA v24 v24n v122 1 fun p142 =>
                            k141 p142 w26) ⟨0, 0, none⟩ w26 fun x143 _ =>
                          gd (α := (Option Addr × Nat × Nat)) (!(!(x136 == x137))) (fun k144 =>
                            ldC w26 x143 fun x145 x145n x145c =>
                            k144 (x145, x145n, x145c) w26) (none, 0, 0) w26 fun x146 _ =>
                          gd (α := Addr) (!(!(x136 == x137))) (fun k147 =>
                            ixA x146.1 x146.2.1 v127 1 fun p148 =>
                            k147 p148 w26) ⟨0, 0, none⟩ w26 fun x149 _ =>
                          gd (α := Int) (!(!(x136 == x137))) (fun k150 =>
                            ldI .i64 w26 x149 fun x151 =>
                            k150 x151 w26) 0 w26 fun x152 _ =>
                          gd (α := Int) (!(!(x136 == x137))) (fun k153 =>
                            cl Try.prog 36 [.int .i64 v122, .int .i64 v127] w26 fun e155 w27 => ∃ x154 : Int, e155 = Ending.returned (.int .i64 x154) ∧
                            k153 x154 w27) 0 w26 fun x156 w28 =>
                          ((!(!(x136 == x137))) = true →
                            ldI .i64 w28 x149 fun x157 =>
                            ((.int .i64 x157 : Value) = .int .i64 x152)) ∧
                          ((!(!(x136 == x137))) = true →
                            ldC w28 x143 fun x158 x158n x158c =>
                            ((.slice x158 x158n x158c : Value) = .slice x146.1 x146.2.1 x146.2.2)) ∧
                          pif (cond (!(x136 == x137)) true (!(x152 == x156))) (
                            R (.bool false) w28) (
                            k128 ((IntKind.wrap .i64 (v127 + 1)), ()) w28)) (
                          k123 ((IntKind.wrap .i64 (v122 + 1)), ()) w25)) (0, ()) w24) (
                      R (.bool true) w24)) (0, ()) w17)) (0, ()) w12)) (0, ()) w5)) ((none, 0, 0), 0, ()) w1)) (0, ()) w
def An19 : An := .seq (.leaf) (.seq (.seq (.leaf) (.blk (.loop [(3, .one (.int .i64))] (.seq (.seq (.leaf) (.cond (.leaf) (.leaf))) (.seq (.blk (.seq (.leaf) (.blk (.loop [(4, .one (.int .i64))] (.seq (.seq (.leaf) (.cond (.leaf) (.leaf))) (.seq (.blk (.draw [0, 0, 3, 7, 0, 0, 0, 96, 255, 511])) (.leaf))))))) (.leaf)))))) (.seq (.leaf) (.seq (.seq (.leaf) (.blk (.loop [(5, .one (.slc)), (6, .one (.int .i64))] (.seq (.seq (.leaf) (.cond (.leaf) (.leaf))) (.seq (.blk (.seq (.leaf) (.seq (.seq (.leaf) (.blk (.loop [(7, .one (.slc)), (8, .one (.int .i64))] (.seq (.seq (.leaf) (.cond (.leaf) (.leaf))) (.seq (.blk (.leaf)) (.leaf)))))) (.leaf)))) (.leaf)))))) (.seq (.seq (.leaf) (.blk (.loop [(9, .one (.int .i64))] (.seq (.seq (.leaf) (.cond (.leaf) (.leaf))) (.seq (.blk (.seq (.leaf) (.blk (.loop [(10, .one (.int .i64))] (.seq (.seq (.leaf) (.cond (.leaf) (.leaf))) (.seq (.blk (.seq (.draw [0, 0, 3, 7, 0, 31, 63, 0, 0, 384, 1023, 2047, 4095, 8191, 8191, 8191, 57343, 122879, 253951, 524287, 1048575, 2097151, 2097151, 8388607, 16777215, 2097151, 67108863, 134217727, 2097151, 2097151, 807403519, 2147483647, 4294967295, 8589934591, 17179869183]) (.cond (.seq (.leaf) (.leaf)) (.leaf)))) (.leaf))))))) (.leaf)))))) (.seq (.seq (.leaf) (.blk (.loop [(11, .one (.int .i64))] (.seq (.seq (.leaf) (.cond (.leaf) (.leaf))) (.seq (.blk (.seq (.leaf) (.seq (.seq (.leaf) (.blk (.loop [(12, .one (.slc)), (13, .one (.int .i64))] (.seq (.seq (.leaf) (.cond (.leaf) (.leaf))) (.seq (.blk (.leaf)) (.leaf)))))) (.leaf)))) (.leaf)))))) (.seq (.seq (.leaf) (.blk (.loop [(14, .one (.int .i64))] (.seq (.seq (.leaf) (.cond (.leaf) (.leaf))) (.seq (.blk (.seq (.leaf) (.blk (.loop [(15, .one (.int .i64))] (.seq (.seq (.leaf) (.cond (.leaf) (.leaf))) (.seq (.blk (.seq (.draw [0, 0, 3, 7, 0, 31, 63, 0, 0, 384, 1023, 2047, 4095, 8191, 8191, 32767, 65535, 8191, 262143, 524287, 8191, 8191, 3153919, 8388607, 16777215, 33554431]) (.cond (.seq (.leaf) (.leaf)) (.leaf)))) (.leaf))))))) (.leaf)))))) (.seq (.leaf) (.leaf))))))))
theorem V19_eq (a0 : Option Addr) (a0n : Nat) (a0c : Nat) (w : World) (R : Value → World → Prop) : evF Try.prog Try.f19 An19 [.slice a0 a0n a0c] w R = V19 a0 a0n a0c w R := by kernel_rfl
theorem V19_calls (a0 : Option Addr) (a0n : Nat) (a0c : Nat) (w : World) (R : Value → World → Prop) (h : V19 a0 a0n a0c w R) : Calls Try.prog 19 #[.slice a0 a0n a0c] w fun e w' => ∃ v, e = .returned v ∧ R v w' :=
  calls_of_ev (args := [.slice a0 a0n a0c]) Try.func19 (Nat.le_of_ble_eq_true (by kernel_rfl)) (by rw [V19_eq]; exact h)
theorem ok19 : fnOk Try.prog 19 = true := by kernel_rfl

/-! depot/depotref14.New -/
def V20 (a0 : Int) (a1 : Nat) (w : World) (R : Value → World → Prop) : Prop :=
  pif (cond (cond (decide (a0 < 0)) true (decide (a0 > 1048576))) true (!(cond ((FloatKind.format .f64).order a1 4602678819172646912 == some .gt || (FloatKind.format .f64).order a1 4602678819172646912 == some .eq) ((FloatKind.format .f64).order a1 4607182418800017408 == some .lt || (FloatKind.format .f64).order a1 4607182418800017408 == some .eq) false))) (
    R (.tuple #[.pointer none, .int .i64 2]) w) (
    alc w [.slice none 0 0, .slice none 0 0, .float .f64 0, .float .f64 0] 75 fun b5 w1 =>
    st w1 ((⟨b5, 0, none⟩ : Addr).add 0) (.slice none 0 0) fun w2 =>
    st w2 ((⟨b5, 0, none⟩ : Addr).add 1) (.slice none 0 0) fun w3 =>
    st w3 ((⟨b5, 0, none⟩ : Addr).add 2) (.float .f64 4607182418800017408) fun w4 =>
    st w4 ((⟨b5, 0, none⟩ : Addr).add 3) (.float .f64 a1) fun w5 =>
    lp (σ := Int × Unit) (fun s9 w6 k8 => match s9 with
      | (v7, _) =>
      pif (decide (v7 < a0)) (
        ldC w6 ((⟨b5, 0, none⟩ : Addr).add 0) fun x12 x12n x12c =>
        alc w6 [.float .f64 0] 22 fun b13 w7 =>
        ∃ (x14 : Option Addr) (x14n x14c : Nat), ∃ w8 : World, (Builtin.append_ #[64, 64] 64 #[.slice x12 x12n x12c, .slice (some (⟨b13, 0, none⟩ : Addr)) 1 1]).run Try.prog w7 = .ok (.slice x14 x14n x14c) w8 ∧
        st w8 (((⟨b5, 0, none⟩ : Addr).add 0).add 0) (.slice x14 x14n x14c) fun w9 =>
        ldC w9 ((⟨b5, 0, none⟩ : Addr).add 1) fun x16 x16n x16c =>
        alc w9 [.bool true] 4 fun b17 w10 =>
        ∃ (x18 : Option Addr) (x18n x18c : Nat), ∃ w11 : World, (Builtin.append_ #[73, 73] 73 #[.slice x16 x16n x16c, .slice (some (⟨b17, 0, none⟩ : Addr)) 1 1]).run Try.prog w10 = .ok (.slice x18 x18n x18c) w11 ∧
        st w11 (((⟨b5, 0, none⟩ : Addr).add 1).add 0) (.slice x18 x18n x18c) fun w12 =>
        k8 ((IntKind.wrap .i64 (v7 + 1)), ()) w12) (
        R (.tuple #[.pointer (some (⟨b5, 0, none⟩ : Addr)), .int .i64 0]) w6)) (0, ()) w5)
def An20 : An := .seq (.leaf) (.seq (.seq (.leaf) (.cond (.seq (.leaf) (.leaf)) (.leaf))) (.seq (.leaf) (.seq (.seq (.leaf) (.blk (.loop [(7, .one (.int .i64))] (.seq (.seq (.leaf) (.cond (.leaf) (.leaf))) (.seq (.blk (.seq (.leaf) (.leaf))) (.leaf)))))) (.seq (.leaf) (.leaf)))))
theorem V20_eq (a0 : Int) (a1 : Nat) (w : World) (R : Value → World → Prop) : evF Try.prog Try.f20 An20 [.int .i64 a0, .float .f64 a1] w R = V20 a0 a1 w R := by kernel_rfl
theorem V20_calls (a0 : Int) (a1 : Nat) (w : World) (R : Value → World → Prop) (h : V20 a0 a1 w R) : Calls Try.prog 20 #[.int .i64 a0, .float .f64 a1] w fun e w' => ∃ v, e = .returned v ∧ R v w' :=
  calls_of_ev (args := [.int .i64 a0, .float .f64 a1]) Try.func20 (Nat.le_of_ble_eq_true (by kernel_rfl)) (by rw [V20_eq]; exact h)
theorem ok20 : fnOk Try.prog 20 = true := by kernel_rfl

/-! depot/depotlaw14.step -/
def V21 (a0 : Option Addr) (a1 : Option Addr) (a2_0 : Int) (a2_1 : Int) (a2_2 : Int) (w : World) (R : Value → World → Prop) : Prop :=
  alc w [.int .i64 a2_0, .int .i64 a2_1, .int .i64 a2_2] 56 fun b2 w1 =>
  ldI .i64 w1 ((⟨b2, 0, none⟩ : Addr).add 1) fun x4 =>
  cl Try.prog 12 [.int .i64 x4, .int .i64 7] w1 fun e6 w2 => ∃ x5 : Int, e6 = Ending.returned (.int .i64 x5) ∧
  pif (x5 == 0) (
    ldI .i64 (World.drew w2) ((⟨b2, 0, none⟩ : Addr).add 2) fun x8 =>
    ldI .i64 (World.drew w2) ((⟨b2, 0, none⟩ : Addr).add 2) fun x9 =>
    cl Try.prog 13 [.pointer a0, .int .i64 x8] (World.drew w2) fun e11 w3 => ∃ x10 : Int, e11 = Ending.returned (.int .i64 x10) ∧
    (
      ldI .i64 w3 ((⟨b2, 0, none⟩ : Addr).add 2) fun x12 =>
      ((.int .i64 x12 : Value) = .int .i64 x9)) ∧
    cl Try.prog 37 [.pointer a1, .int .i64 x9] w3 fun e14 w4 => ∃ x13 : Int, e14 = Ending.returned (.int .i64 x13) ∧
    R (.bool (x10 == x13)) w4) (
    pif (x5 == 1) (
      lp (σ := Int × Unit) (fun s19 w5 k18 => match s19 with
        | (v17, _) =>
        ldI .i64 w5 ((⟨b2, 0, none⟩ : Addr).add 2) fun x21 =>
        cl Try.prog 12 [.int .i64 x21, .int .i64 400] w5 fun e23 w6 => ∃ x22 : Int, e23 = Ending.returned (.int .i64 x22) ∧
        pif (decide (v17 < x22)) (
          cl Try.prog 14 [.pointer a0] w6 fun e25 w7 => e25 = Ending.returned (.tuple #[]) ∧
          cl Try.prog 38 [.pointer a1] w7 fun e27 w8 => e27 = Ending.returned (.tuple #[]) ∧
          k18 ((IntKind.wrap .i64 (v17 + 1)), ()) w8) (
          R (.bool true) w6)) (0, ()) w2) (
      pif (x5 == 2) (
        cl Try.prog 25 [.pointer a0] w2 fun e34 w9 => ∃ x32 : Int, ∃ x33 : Bool, e34 = Ending.returned (.tuple #[.int .i64 x32, .bool x33]) ∧
        cl Try.prog 39 [.pointer a1] w9 fun e38 w10 => ∃ x36 : Int, ∃ x37 : Bool, e38 = Ending.returned (.tuple #[.int .i64 x36, .bool x37]) ∧
        R (.bool (cond (x32 == x36) (x33 == x37) false)) w10) (
        pif (x5 == 3) (
          ldI .i64 (World.drew w2) ((⟨b2, 0, none⟩ : Addr).add 2) fun x41 =>
          ldI .i64 (World.drew w2) ((⟨b2, 0, none⟩ : Addr).add 2) fun x42 =>
          cl Try.prog 26 [.pointer a0, .int .i64 x41] (World.drew w2) fun e44 w11 => ∃ x43 : Int, e44 = Ending.returned (.int .i64 x43) ∧
          (
            ldI .i64 w11 ((⟨b2, 0, none⟩ : Addr).add 2) fun x45 =>
            ((.int .i64 x45 : Value) = .int .i64 x42)) ∧
          cl Try.prog 40 [.pointer a1, .int .i64 x42] w11 fun e47 w12 => ∃ x46 : Int, e47 = Ending.returned (.int .i64 x46) ∧
          R (.bool (x43 == x46)) w12) (
          pif (x5 == 4) (
            ldI .i64 (World.drew w2) ((⟨b2, 0, none⟩ : Addr).add 2) fun x49 =>
            ldI .i64 (World.drew w2) ((⟨b2, 0, none⟩ : Addr).add 2) fun x50 =>
            cl Try.prog 10 [.pointer a0, .int .i64 x49] (World.drew w2) fun e52 w13 => ∃ x51 : Bool, e52 = Ending.returned (.bool x51) ∧
            (
              ldI .i64 w13 ((⟨b2, 0, none⟩ : Addr).add 2) fun x53 =>
              ((.int .i64 x53 : Value) = .int .i64 x50)) ∧
            cl Try.prog 41 [.pointer a1, .int .i64 x50] w13 fun e55 w14 => ∃ x54 : Bool, e55 = Ending.returned (.bool x54) ∧
            R (.bool (x51 == x54)) w14) (
            pif (x5 == 5) (
              ldI .i64 w2 ((⟨b2, 0, none⟩ : Addr).add 2) fun x58 =>
              cl Try.prog 11 [.pointer a0, .int .i64 x58] w2 fun e61 w15 => ∃ x59 : Nat, ∃ x60 : Int, e61 = Ending.returned (.tuple #[.float .f64 x59, .int .i64 x60]) ∧
              ldI .i64 w15 ((⟨b2, 0, none⟩ : Addr).add 2) fun x63 =>
              cl Try.prog 42 [.pointer a1, .int .i64 x63] w15 fun e66 w16 => ∃ x64 : Nat, ∃ x65 : Int, e66 = Ending.returned (.tuple #[.float .f64 x64, .int .i64 x65]) ∧
              R (.bool (cond ((FloatKind.format .f64).order x59 x64 == some .eq) (x60 == x65) false)) w16) (
              cl Try.prog 15 [.pointer a0] w2 fun e70 w17 => ∃ (x69 : Option Addr) (x69n x69c : Nat), e70 = Ending.returned (.slice x69 x69n x69c) ∧
              cl Try.prog 43 [.pointer a1] w17 fun e72 w18 => ∃ (x71 : Option Addr) (x71n x71c : Nat), e72 = Ending.returned (.slice x71 x71n x71c) ∧
              cl Try.prog 18 [.slice x69 x69n x69c, .slice x71 x71n x71c] w18 fun e74 w19 => ∃ x73 : Bool, e74 = Ending.returned (.bool x73) ∧
              R (.bool x73) w19))))))
def An21 : An := .seq (.leaf) (.seq (.seq (.leaf) (.blk (.seq (.leaf) (.cond (.seq (.draw [0, 0, 2, 7, 0, 0, 32, 127, 255, 511]) (.leaf)) (.seq (.leaf) (.cond (.seq (.seq (.leaf) (.blk (.loop [(7, .one (.int .i64))] (.seq (.seq (.leaf) (.cond (.leaf) (.leaf))) (.seq (.blk (.seq (.leaf) (.leaf))) (.leaf)))))) (.seq (.leaf) (.leaf))) (.seq (.leaf) (.cond (.seq (.leaf) (.seq (.leaf) (.seq (.leaf) (.leaf)))) (.seq (.leaf) (.cond (.seq (.draw [0, 0, 2, 7, 0, 0, 32, 127, 255, 511]) (.leaf)) (.seq (.leaf) (.cond (.seq (.draw [0, 0, 2, 7, 0, 0, 32, 127, 255, 511]) (.leaf)) (.seq (.leaf) (.cond (.seq (.leaf) (.seq (.leaf) (.seq (.leaf) (.leaf)))) (.leaf))))))))))))))) (.seq (.leaf) (.leaf)))
theorem V21_eq (a0 : Option Addr) (a1 : Option Addr) (a2_0 : Int) (a2_1 : Int) (a2_2 : Int) (w : World) (R : Value → World → Prop) : evF Try.prog Try.f21 An21 [.pointer a0, .pointer a1, .agg #[.int .i64 a2_0, .int .i64 a2_1, .int .i64 a2_2]] w R = V21 a0 a1 a2_0 a2_1 a2_2 w R := by kernel_rfl
theorem V21_calls (a0 : Option Addr) (a1 : Option Addr) (a2_0 : Int) (a2_1 : Int) (a2_2 : Int) (w : World) (R : Value → World → Prop) (h : V21 a0 a1 a2_0 a2_1 a2_2 w R) : Calls Try.prog 21 #[.pointer a0, .pointer a1, .agg #[.int .i64 a2_0, .int .i64 a2_1, .int .i64 a2_2]] w fun e w' => ∃ v, e = .returned v ∧ R v w' :=
  calls_of_ev (args := [.pointer a0, .pointer a1, .agg #[.int .i64 a2_0, .int .i64 a2_1, .int .i64 a2_2]]) Try.func21 (Nat.le_of_ble_eq_true (by kernel_rfl)) (by rw [V21_eq]; exact h)
theorem ok21 : fnOk Try.prog 21 = true := by kernel_rfl

/-! depot/depotlaw14.whole -/
def V22 (a0 : Option Addr) (a1 : Option Addr) (w : World) (R : Value → World → Prop) : Prop :=
  lp (σ := Int × Unit) (fun s5 w1 k4 => match s5 with
    | (v3, _) =>
    nn a1 fun p7 =>
    ldC w1 (p7.add 0) fun x8 x8n x8c =>
    pif (decide (v3 ≤ (IntKind.wrap .i64 ((x8n : Int) + 1)))) (
      cl Try.prog 11 [.pointer a0, .int .i64 v3] w1 fun e12 w2 => ∃ x10 : Nat, ∃ x11 : Int, e12 = Ending.returned (.tuple #[.float .f64 x10, .int .i64 x11]) ∧
      cl Try.prog 42 [.pointer a1, .int .i64 v3] w2 fun e16 w3 => ∃ x14 : Nat, ∃ x15 : Int, e16 = Ending.returned (.tuple #[.float .f64 x14, .int .i64 x15]) ∧
      gd (α := Bool) (!(cond ((FloatKind.format .f64).order x10 x14 != some .eq) true (x11 != x15))) (fun k18 =>
        cl Try.prog 10 [.pointer a0, .int .i64 v3] w3 fun e20 w4 => ∃ x19 : Bool, e20 = Ending.returned (.bool x19) ∧
        k18 x19 w4) false w3 fun x21 w5 =>
      gd (α := Bool) (!(cond ((FloatKind.format .f64).order x10 x14 != some .eq) true (x11 != x15))) (fun k22 =>
        cl Try.prog 41 [.pointer a1, .int .i64 v3] w5 fun e24 w6 => ∃ x23 : Bool, e24 = Ending.returned (.bool x23) ∧
        k22 x23 w6) false w5 fun x25 w7 =>
      pif (cond (cond ((FloatKind.format .f64).order x10 x14 != some .eq) true (x11 != x15)) true (!(x21 == x25))) (
        R (.bool false) w7) (
        k4 ((IntKind.wrap .i64 (v3 + 1)), ()) w7)) (
      cl Try.prog 15 [.pointer a0] w1 fun e30 w8 => ∃ (x29 : Option Addr) (x29n x29c : Nat), e30 = Ending.returned (.slice x29 x29n x29c) ∧
      cl Try.prog 43 [.pointer a1] w8 fun e32 w9 => ∃ (x31 : Option Addr) (x31n x31c : Nat), e32 = Ending.returned (.slice x31 x31n x31c) ∧
      cl Try.prog 18 [.slice x29 x29n x29c, .slice x31 x31n x31c] w9 fun e34 w10 => ∃ x33 : Bool, e34 = Ending.returned (.bool x33) ∧
      R (.bool x33) w10)) (0, ()) w
def An22 : An := .seq (.leaf) (.seq (.seq (.leaf) (.blk (.loop [(5, .one (.int .i64))] (.seq (.seq (.leaf) (.cond (.leaf) (.leaf))) (.seq (.blk (.seq (.leaf) (.seq (.leaf) (.seq (.leaf) (.cond (.seq (.leaf) (.leaf)) (.leaf)))))) (.leaf)))))) (.seq (.leaf) (.leaf)))
theorem V22_eq (a0 : Option Addr) (a1 : Option Addr) (w : World) (R : Value → World → Prop) : evF Try.prog Try.f22 An22 [.pointer a0, .pointer a1] w R = V22 a0 a1 w R := by kernel_rfl
theorem V22_calls (a0 : Option Addr) (a1 : Option Addr) (w : World) (R : Value → World → Prop) (h : V22 a0 a1 w R) : Calls Try.prog 22 #[.pointer a0, .pointer a1] w fun e w' => ∃ v, e = .returned v ∧ R v w' :=
  calls_of_ev (args := [.pointer a0, .pointer a1]) Try.func22 (Nat.le_of_ble_eq_true (by kernel_rfl)) (by rw [V22_eq]; exact h)
theorem ok22 : fnOk Try.prog 22 = true := by kernel_rfl

/-! depot/depotref00.HasInt -/
def V23 (a0 : Option Addr) (a0n : Nat) (a0c : Nat) (a1 : Int) (w : World) (R : Value → World → Prop) : Prop :=
  lp (σ := Int × Unit) (fun s5 w1 k4 => match s5 with
    | (v3, _) =>
    pif (decide (v3 < (a0n : Int))) (
      ixA a0 a0n v3 1 fun p8 =>
      ldI .i64 w1 p8 fun x9 =>
      pif (x9 == a1) (
        R (.bool true) w1) (
        k4 ((IntKind.wrap .i64 (v3 + 1)), ()) w1)) (
      R (.bool false) w1)) (0, ()) w
def An23 : An := .seq (.leaf) (.seq (.seq (.leaf) (.blk (.loop [(5, .one (.int .i64))] (.seq (.seq (.leaf) (.cond (.leaf) (.leaf))) (.seq (.blk (.seq (.leaf) (.cond (.seq (.leaf) (.leaf)) (.leaf)))) (.leaf)))))) (.seq (.leaf) (.leaf)))
theorem V23_eq (a0 : Option Addr) (a0n : Nat) (a0c : Nat) (a1 : Int) (w : World) (R : Value → World → Prop) : evF Try.prog Try.f23 An23 [.slice a0 a0n a0c, .int .i64 a1] w R = V23 a0 a0n a0c a1 w R := by kernel_rfl
theorem V23_calls (a0 : Option Addr) (a0n : Nat) (a0c : Nat) (a1 : Int) (w : World) (R : Value → World → Prop) (h : V23 a0 a0n a0c a1 w R) : Calls Try.prog 23 #[.slice a0 a0n a0c, .int .i64 a1] w fun e w' => ∃ v, e = .returned v ∧ R v w' :=
  calls_of_ev (args := [.slice a0 a0n a0c, .int .i64 a1]) Try.func23 (Nat.le_of_ble_eq_true (by kernel_rfl)) (by rw [V23_eq]; exact h)
theorem ok23 : fnOk Try.prog 23 = true := by kernel_rfl

/-! depot/depotlaw14.ahead -/
def V24 (a0 : Option Addr) (a1 : Int) (a2 : Int) (w : World) (R : Value → World → Prop) : Prop :=
  cl Try.prog 11 [.pointer a0, .int .i64 a1] w fun e5 w1 => ∃ x3 : Nat, ∃ x4 : Int, e5 = Ending.returned (.tuple #[.float .f64 x3, .int .i64 x4]) ∧
  cl Try.prog 11 [.pointer a0, .int .i64 a2] w1 fun e9 w2 => ∃ x7 : Nat, ∃ x8 : Int, e9 = Ending.returned (.tuple #[.float .f64 x7, .int .i64 x8]) ∧
  R (.bool (cond (cond (x4 == 0) (x8 == 0) false) (cond ((FloatKind.format .f64).order x3 x7 == some .gt) true (cond ((FloatKind.format .f64).order x3 x7 == some .eq) (decide (a1 < a2)) false)) false)) w2
def An24 : An := .seq (.leaf) (.seq (.leaf) (.seq (.leaf) (.seq (.leaf) (.leaf))))
theorem V24_eq (a0 : Option Addr) (a1 : Int) (a2 : Int) (w : World) (R : Value → World → Prop) : evF Try.prog Try.f24 An24 [.pointer a0, .int .i64 a1, .int .i64 a2] w R = V24 a0 a1 a2 w R := by kernel_rfl
theorem V24_calls (a0 : Option Addr) (a1 : Int) (a2 : Int) (w : World) (R : Value → World → Prop) (h : V24 a0 a1 a2 w R) : Calls Try.prog 24 #[.pointer a0, .int .i64 a1, .int .i64 a2] w fun e w' => ∃ v, e = .returned v ∧ R v w' :=
  calls_of_ev (args := [.pointer a0, .int .i64 a1, .int .i64 a2]) Try.func24 (Nat.le_of_ble_eq_true (by kernel_rfl)) (by rw [V24_eq]; exact h)
theorem ok24 : fnOk Try.prog 24 = true := by kernel_rfl

/-! (*depot/heat.Heat).Take -/
def V25 (a0 : Option Addr) (w : World) (R : Value → World → Prop) : Prop :=
  nn a0 fun p3 =>
  ldC w ((p3.add 3).add 0) fun x4 x4n x4c =>
  pif ((x4n : Int) == 0) (
    R (.tuple #[.int .i64 0, .bool false]) w) (
    nn a0 fun p7 =>
    cl Try.prog 44 [.pointer (some (p7.add 3))] w fun e9 w1 => ∃ x8 : Int, e9 = Ending.returned (.int .i64 x8) ∧
    R (.tuple #[.int .i64 x8, .bool true]) w1)
def An25 : An := .seq (.leaf) (.seq (.seq (.leaf) (.cond (.seq (.leaf) (.leaf)) (.leaf))) (.seq (.leaf) (.leaf)))
theorem V25_eq (a0 : Option Addr) (w : World) (R : Value → World → Prop) : evF Try.prog Try.f25 An25 [.pointer a0] w R = V25 a0 w R := by kernel_rfl
theorem V25_calls (a0 : Option Addr) (w : World) (R : Value → World → Prop) (h : V25 a0 w R) : Calls Try.prog 25 #[.pointer a0] w fun e w' => ∃ v, e = .returned v ∧ R v w' :=
  calls_of_ev (args := [.pointer a0]) Try.func25 (Nat.le_of_ble_eq_true (by kernel_rfl)) (by rw [V25_eq]; exact h)
theorem ok25 : fnOk Try.prog 25 = true := by kernel_rfl

/-! (*depot/heat.Heat).Put -/
def V26 (a0 : Option Addr) (a1 : Int) (w : World) (R : Value → World → Prop) : Prop :=
  cl Try.prog 29 [.pointer a0, .int .i64 a1] w fun e4 w1 => ∃ x3 : Bool, e4 = Ending.returned (.bool x3) ∧
  pif (!x3) (
    R (.int .i64 2) w1) (
    nn a0 fun p7 =>
    cl Try.prog 30 [.pointer (some (p7.add 3)), .int .i64 a1] w1 fun e9 w2 => ∃ x8 : Bool, e9 = Ending.returned (.bool x8) ∧
    pif x8 (
      R (.int .i64 50) w2) (
      nn a0 fun p12 =>
      cl Try.prog 45 [.pointer (some (p12.add 3)), .int .i64 a1] w2 fun e13 w3 => e13 = Ending.returned (.tuple #[]) ∧
      R (.int .i64 0) w3))
def An26 : An := .seq (.leaf) (.seq (.blk (.seq (.leaf) (.cond (.seq (.leaf) (.leaf)) (.seq (.leaf) (.cond (.seq (.leaf) (.leaf)) (.leaf)))))) (.seq (.leaf) (.seq (.leaf) (.leaf))))
theorem V26_eq (a0 : Option Addr) (a1 : Int) (w : World) (R : Value → World → Prop) : evF Try.prog Try.f26 An26 [.pointer a0, .int .i64 a1] w R = V26 a0 a1 w R := by kernel_rfl
theorem V26_calls (a0 : Option Addr) (a1 : Int) (w : World) (R : Value → World → Prop) (h : V26 a0 a1 w R) : Calls Try.prog 26 #[.pointer a0, .int .i64 a1] w fun e w' => ∃ v, e = .returned v ∧ R v w' :=
  calls_of_ev (args := [.pointer a0, .int .i64 a1]) Try.func26 (Nat.le_of_ble_eq_true (by kernel_rfl)) (by rw [V26_eq]; exact h)
theorem ok26 : fnOk Try.prog 26 = true := by kernel_rfl

/-! (*depot/heat.Heat).Order$1 -/
def V35 (a0 : Int) (a1 : Int) (c0 : Addr) (w : World) (R : Value → World → Prop) : Prop :=
  ldP w c0 fun x3 =>
  cl Try.prog 27 [.pointer x3, .int .i64 a0, .int .i64 a1] w fun e5 w1 => ∃ x4 : Bool, e5 = Ending.returned (.bool x4) ∧
  pif x4 (
    R (.int .i64 (-1)) w1) (
    R (.int .i64 1) w1)
def An35 : An := .seq (.leaf) (.seq (.seq (.leaf) (.cond (.seq (.leaf) (.leaf)) (.leaf))) (.seq (.leaf) (.leaf)))
theorem V35_eq (a0 : Int) (a1 : Int) (c0 : Addr) (w : World) (R : Value → World → Prop) : evF Try.prog Try.f35 An35 [.int .i64 a0, .int .i64 a1, .pointer (some c0)] w R = V35 a0 a1 c0 w R := by kernel_rfl
theorem V35_calls (a0 : Int) (a1 : Int) (c0 : Addr) (w : World) (R : Value → World → Prop) (h : V35 a0 a1 c0 w R) : Calls Try.prog 35 #[.int .i64 a0, .int .i64 a1, .pointer (some c0)] w fun e w' => ∃ v, e = .returned v ∧ R v w' :=
  calls_of_ev (args := [.int .i64 a0, .int .i64 a1, .pointer (some c0)]) Try.func35 (Nat.le_of_ble_eq_true (by kernel_rfl)) (by rw [V35_eq]; exact h)
theorem ok35 : fnOk Try.prog 35 = true := by kernel_rfl

/-! depot/depotkit.mark -/
def V36 (a0 : Int) (a1 : Int) (w : World) (R : Value → World → Prop) : Prop :=
  R (.int .i64 (IntKind.wrap .i64 ((IntKind.wrap .i64 (1000003 * (IntKind.wrap .i64 (a0 + 7)))) + a1))) w
def An36 : An := .seq (.leaf) (.seq (.leaf) (.leaf))
theorem V36_eq (a0 : Int) (a1 : Int) (w : World) (R : Value → World → Prop) : evF Try.prog Try.f36 An36 [.int .i64 a0, .int .i64 a1] w R = V36 a0 a1 w R := by kernel_rfl
theorem V36_calls (a0 : Int) (a1 : Int) (w : World) (R : Value → World → Prop) (h : V36 a0 a1 w R) : Calls Try.prog 36 #[.int .i64 a0, .int .i64 a1] w fun e w' => ∃ v, e = .returned v ∧ R v w' :=
  calls_of_ev (args := [.int .i64 a0, .int .i64 a1]) Try.func36 (Nat.le_of_ble_eq_true (by kernel_rfl)) (by rw [V36_eq]; exact h)
theorem ok36 : fnOk Try.prog 36 = true := by kernel_rfl

/-! (*depot/depotref14.Heat).Bump -/
def V37 (a0 : Option Addr) (a1 : Int) (w : World) (R : Value → World → Prop) : Prop :=
  gd (α := Addr) (!(decide (a1 < 1))) (fun k3 =>
    nn a0 fun p4 =>
    k3 p4 w) ⟨0, 0, none⟩ w fun x5 w1 =>
  gd (α := (Option Addr × Nat × Nat)) (!(decide (a1 < 1))) (fun k6 =>
    ldC w1 (x5.add 0) fun x7 x7n x7c =>
    k6 (x7, x7n, x7c) w1) (none, 0, 0) w1 fun x8 w2 =>
  pif (cond (decide (a1 < 1)) true (decide (a1 > (x8.2.1 : Int)))) (
    R (.int .i64 2) w2) (
    nn a0 fun p10 =>
    ldC (World.drew w2) (p10.add 0) fun x11 x11n x11c =>
    nn a0 fun p12 =>
    ldC (World.drew w2) (p12.add 0) fun x13 x13n x13c =>
    ixA x13 x13n (IntKind.wrap .i64 (a1 - 1)) 1 fun p14 =>
    ldF .f64 (World.drew w2) p14 fun x15 =>
    nn a0 fun p16 =>
    ldF .f64 (World.drew w2) (p16.add 2) fun x17 =>
    ∃ x18 : Nat, (FloatKind.format .f64).add x15 x17 = some x18 ∧
    ixA x11 x11n (IntKind.wrap .i64 (a1 - 1)) 1 fun p19 =>
    st (World.drew w2) (p19.add 0) (.float .f64 x18) fun w3 =>
    jn (σ := Unit) (fun k20 =>
      nn a0 fun p23 =>
      ldC w3 (p23.add 0) fun x24 x24n x24c =>
      ixA x24 x24n (IntKind.wrap .i64 (a1 - 1)) 1 fun p25 =>
      ldF .f64 w3 p25 fun x26 =>
      pif ((FloatKind.format .f64).order x26 6103021453049119613 == some .gt) (
        cl Try.prog 49 [.pointer a0] w3 fun e28 w5 => e28 = Ending.returned (.tuple #[]) ∧
        k20 (()) w5) (
        k20 (()) w3)) fun s21 w4 => match s21 with
    | (_) =>
    R (.int .i64 0) w4)
def An37 : An := .seq (.leaf) (.seq (.seq (.leaf) (.cond (.seq (.leaf) (.leaf)) (.leaf))) (.seq (.draw [0, 1, 3, 7, 0, 16, 0, 64, 192, 448, 0, 1024, 4032, 8128, 0, 16384, 49152, 114688, 262080, 524287, 1048575]) (.seq (.join [] (.seq (.leaf) (.cond (.leaf) (.leaf)))) (.seq (.leaf) (.leaf)))))
theorem V37_eq (a0 : Option Addr) (a1 : Int) (w : World) (R : Value → World → Prop) : evF Try.prog Try.f37 An37 [.pointer a0, .int .i64 a1] w R = V37 a0 a1 w R := by kernel_rfl
theorem V37_calls (a0 : Option Addr) (a1 : Int) (w : World) (R : Value → World → Prop) (h : V37 a0 a1 w R) : Calls Try.prog 37 #[.pointer a0, .int .i64 a1] w fun e w' => ∃ v, e = .returned v ∧ R v w' :=
  calls_of_ev (args := [.pointer a0, .int .i64 a1]) Try.func37 (Nat.le_of_ble_eq_true (by kernel_rfl)) (by rw [V37_eq]; exact h)
theorem ok37 : fnOk Try.prog 37 = true := by kernel_rfl

/-! (*depot/depotref14.Heat).Cool -/
def V38 (a0 : Option Addr) (w : World) (R : Value → World → Prop) : Prop :=
  nn a0 fun p1 =>
  ldF .f64 (World.drew w) (p1.add 2) fun x2 =>
  nn a0 fun p3 =>
  ldF .f64 (World.drew w) (p3.add 3) fun x4 =>
  ∃ x5 : Nat, (FloatKind.format .f64).div x2 x4 = some x5 ∧
  nn a0 fun p6 =>
  st (World.drew w) ((p6.add 2).add 0) (.float .f64 x5) fun w1 =>
  nn a0 fun p8 =>
  ldF .f64 w1 (p8.add 2) fun x9 =>
  pif ((FloatKind.format .f64).order x9 6103021453049119613 == some .gt) (
    cl Try.prog 49 [.pointer a0] w1 fun e11 w2 => e11 = Ending.returned (.tuple #[]) ∧
    R (.tuple #[]) w2) (
    R (.tuple #[]) w1)
def An38 : An := .seq (.draw [0, 0, 2, 6, 14, 0, 32, 96, 224, 510, 1023, 2047, 4095]) (.seq (.leaf) (.cond (.leaf) (.leaf)))
theorem V38_eq (a0 : Option Addr) (w : World) (R : Value → World → Prop) : evF Try.prog Try.f38 An38 [.pointer a0] w R = V38 a0 w R := by kernel_rfl
theorem V38_calls (a0 : Option Addr) (w : World) (R : Value → World → Prop) (h : V38 a0 w R) : Calls Try.prog 38 #[.pointer a0] w fun e w' => ∃ v, e = .returned v ∧ R v w' :=
  calls_of_ev (args := [.pointer a0]) Try.func38 (Nat.le_of_ble_eq_true (by kernel_rfl)) (by rw [V38_eq]; exact h)
theorem ok38 : fnOk Try.prog 38 = true := by kernel_rfl

/-! (*depot/depotref14.Heat).Take -/
def V39 (a0 : Option Addr) (w : World) (R : Value → World → Prop) : Prop :=
  nn a0 fun p3 =>
  ldC w (p3.add 1) fun x4 x4n x4c =>
  cl Try.prog 50 [.pointer a0, .slice x4 x4n x4c] w fun e6 w1 => ∃ x5 : Int, e6 = Ending.returned (.int .i64 x5) ∧
  pif (x5 == 0) (
    R (.tuple #[.int .i64 0, .bool false]) w1) (
    nn a0 fun p10 =>
    ldC w1 (p10.add 1) fun x11 x11n x11c =>
    ixA x11 x11n (IntKind.wrap .i64 (x5 - 1)) 1 fun p12 =>
    st w1 (p12.add 0) (.bool false) fun w2 =>
    R (.tuple #[.int .i64 x5, .bool true]) w2)
def An39 : An := .seq (.leaf) (.seq (.leaf) (.seq (.seq (.leaf) (.cond (.seq (.leaf) (.leaf)) (.leaf))) (.seq (.leaf) (.seq (.leaf) (.leaf)))))
theorem V39_eq (a0 : Option Addr) (w : World) (R : Value → World → Prop) : evF Try.prog Try.f39 An39 [.pointer a0] w R = V39 a0 w R := by kernel_rfl
theorem V39_calls (a0 : Option Addr) (w : World) (R : Value → World → Prop) (h : V39 a0 w R) : Calls Try.prog 39 #[.pointer a0] w fun e w' => ∃ v, e = .returned v ∧ R v w' :=
  calls_of_ev (args := [.pointer a0]) Try.func39 (Nat.le_of_ble_eq_true (by kernel_rfl)) (by rw [V39_eq]; exact h)
theorem ok39 : fnOk Try.prog 39 = true := by kernel_rfl

/-! (*depot/depotref14.Heat).Put -/
def V40 (a0 : Option Addr) (a1 : Int) (w : World) (R : Value → World → Prop) : Prop :=
  gd (α := Addr) (!(decide (a1 < 1))) (fun k3 =>
    nn a0 fun p4 =>
    k3 p4 w) ⟨0, 0, none⟩ w fun x5 w1 =>
  gd (α := (Option Addr × Nat × Nat)) (!(decide (a1 < 1))) (fun k6 =>
    ldC w1 (x5.add 0) fun x7 x7n x7c =>
    k6 (x7, x7n, x7c) w1) (none, 0, 0) w1 fun x8 w2 =>
  pif (cond (decide (a1 < 1)) true (decide (a1 > (x8.2.1 : Int)))) (
    R (.int .i64 2) w2) (
    nn a0 fun p11 =>
    ldC w2 (p11.add 1) fun x12 x12n x12c =>
    ixA x12 x12n (IntKind.wrap .i64 (a1 - 1)) 1 fun p13 =>
    ldB w2 p13 fun x14 =>
    pif x14 (
      R (.int .i64 50) w2) (
      nn a0 fun p17 =>
      ldC w2 (p17.add 1) fun x18 x18n x18c =>
      ixA x18 x18n (IntKind.wrap .i64 (a1 - 1)) 1 fun p19 =>
      st w2 (p19.add 0) (.bool true) fun w3 =>
      R (.int .i64 0) w3))
def An40 : An := .seq (.leaf) (.seq (.seq (.leaf) (.cond (.seq (.leaf) (.leaf)) (.leaf))) (.seq (.seq (.leaf) (.cond (.seq (.leaf) (.leaf)) (.leaf))) (.seq (.leaf) (.seq (.leaf) (.leaf)))))
theorem V40_eq (a0 : Option Addr) (a1 : Int) (w : World) (R : Value → World → Prop) : evF Try.prog Try.f40 An40 [.pointer a0, .int .i64 a1] w R = V40 a0 a1 w R := by kernel_rfl
theorem V40_calls (a0 : Option Addr) (a1 : Int) (w : World) (R : Value → World → Prop) (h : V40 a0 a1 w R) : Calls Try.prog 40 #[.pointer a0, .int .i64 a1] w fun e w' => ∃ v, e = .returned v ∧ R v w' :=
  calls_of_ev (args := [.pointer a0, .int .i64 a1]) Try.func40 (Nat.le_of_ble_eq_true (by kernel_rfl)) (by rw [V40_eq]; exact h)
theorem ok40 : fnOk Try.prog 40 = true := by kernel_rfl

/-! (*depot/depotref14.Heat).In -/
def V41 (a0 : Option Addr) (a1 : Int) (w : World) (R : Value → World → Prop) : Prop :=
  gd (α := Addr) (decide (a1 ≥ 1)) (fun k3 =>
    nn a0 fun p4 =>
    k3 p4 w) ⟨0, 0, none⟩ w fun x5 w1 =>
  gd (α := (Option Addr × Nat × Nat)) (decide (a1 ≥ 1)) (fun k6 =>
    ldC w1 (x5.add 0) fun x7 x7n x7c =>
    k6 (x7, x7n, x7c) w1) (none, 0, 0) w1 fun x8 w2 =>
  gd (α := Addr) (cond (decide (a1 ≥ 1)) (decide (a1 ≤ (x8.2.1 : Int))) false) (fun k9 =>
    nn a0 fun p10 =>
    k9 p10 w2) ⟨0, 0, none⟩ w2 fun x11 w3 =>
  gd (α := (Option Addr × Nat × Nat)) (cond (decide (a1 ≥ 1)) (decide (a1 ≤ (x8.2.1 : Int))) false) (fun k12 =>
    ldC w3 (x11.add 1) fun x13 x13n x13c =>
    k12 (x13, x13n, x13c) w3) (none, 0, 0) w3 fun x14 w4 =>
  gd (α := Addr) (cond (decide (a1 ≥ 1)) (decide (a1 ≤ (x8.2.1 : Int))) false) (fun k15 =>
    ixA x14.1 x14.2.1 (IntKind.wrap .i64 (a1 - 1)) 1 fun p16 =>
    k15 p16 w4) ⟨0, 0, none⟩ w4 fun x17 w5 =>
  gd (α := Bool) (cond (decide (a1 ≥ 1)) (decide (a1 ≤ (x8.2.1 : Int))) false) (fun k18 =>
    ldB w5 x17 fun x19 =>
    k18 x19 w5) false w5 fun x20 w6 =>
  R (.bool (cond (cond (decide (a1 ≥ 1)) (decide (a1 ≤ (x8.2.1 : Int))) false) x20 false)) w6
def An41 : An := .seq (.leaf) (.seq (.leaf) (.leaf))
theorem V41_eq (a0 : Option Addr) (a1 : Int) (w : World) (R : Value → World → Prop) : evF Try.prog Try.f41 An41 [.pointer a0, .int .i64 a1] w R = V41 a0 a1 w R := by kernel_rfl
theorem V41_calls (a0 : Option Addr) (a1 : Int) (w : World) (R : Value → World → Prop) (h : V41 a0 a1 w R) : Calls Try.prog 41 #[.pointer a0, .int .i64 a1] w fun e w' => ∃ v, e = .returned v ∧ R v w' :=
  calls_of_ev (args := [.pointer a0, .int .i64 a1]) Try.func41 (Nat.le_of_ble_eq_true (by kernel_rfl)) (by rw [V41_eq]; exact h)
theorem ok41 : fnOk Try.prog 41 = true := by kernel_rfl

/-! (*depot/depotref14.Heat).Score -/
def V42 (a0 : Option Addr) (a1 : Int) (w : World) (R : Value → World → Prop) : Prop :=
  gd (α := Addr) (!(decide (a1 < 1))) (fun k3 =>
    nn a0 fun p4 =>
    k3 p4 w) ⟨0, 0, none⟩ w fun x5 w1 =>
  gd (α := (Option Addr × Nat × Nat)) (!(decide (a1 < 1))) (fun k6 =>
    ldC w1 (x5.add 0) fun x7 x7n x7c =>
    k6 (x7, x7n, x7c) w1) (none, 0, 0) w1 fun x8 w2 =>
  pif (cond (decide (a1 < 1)) true (decide (a1 > (x8.2.1 : Int)))) (
    R (.tuple #[.float .f64 0, .int .i64 2]) w2) (
    nn a0 fun p11 =>
    ldC w2 (p11.add 0) fun x12 x12n x12c =>
    ixA x12 x12n (IntKind.wrap .i64 (a1 - 1)) 1 fun p13 =>
    ldF .f64 w2 p13 fun x14 =>
    R (.tuple #[.float .f64 x14, .int .i64 0]) w2)
def An42 : An := .seq (.leaf) (.seq (.seq (.leaf) (.cond (.seq (.leaf) (.leaf)) (.leaf))) (.seq (.leaf) (.leaf)))
theorem V42_eq (a0 : Option Addr) (a1 : Int) (w : World) (R : Value → World → Prop) : evF Try.prog Try.f42 An42 [.pointer a0, .int .i64 a1] w R = V42 a0 a1 w R := by kernel_rfl
theorem V42_calls (a0 : Option Addr) (a1 : Int) (w : World) (R : Value → World → Prop) (h : V42 a0 a1 w R) : Calls Try.prog 42 #[.pointer a0, .int .i64 a1] w fun e w' => ∃ v, e = .returned v ∧ R v w' :=
  calls_of_ev (args := [.pointer a0, .int .i64 a1]) Try.func42 (Nat.le_of_ble_eq_true (by kernel_rfl)) (by rw [V42_eq]; exact h)
theorem ok42 : fnOk Try.prog 42 = true := by kernel_rfl

/-! (*depot/depotref14.Heat).Order -/
def V43 (a0 : Option Addr) (w : World) (R : Value → World → Prop) : Prop :=
  lp (σ := (Option Addr × Nat × Nat) × Int × Unit) (fun s7 w1 k6 => match s7 with
    | ((v4, v4n, v4c), v5, _) =>
    nn a0 fun p9 =>
    ldC w1 (p9.add 1) fun x10 x10n x10c =>
    pif (decide (v5 < (x10n : Int))) (
      nn a0 fun p12 =>
      ldC w1 (p12.add 1) fun x13 x13n x13c =>
      ixA x13 x13n v5 1 fun p14 =>
      ldB w1 p14 fun x15 =>
      alc w1 [.bool x15] 4 fun b16 w2 =>
      ∃ (x17 : Option Addr) (x17n x17c : Nat), ∃ w3 : World, (Builtin.append_ #[73, 73] 73 #[.slice v4 v4n v4c, .slice (some (⟨b16, 0, none⟩ : Addr)) 1 1]).run Try.prog w2 = .ok (.slice x17 x17n x17c) w3 ∧
      k6 ((x17, x17n, x17c), (IntKind.wrap .i64 (v5 + 1)), ()) w3) (
      lp (σ := (Option Addr × Nat × Nat) × Unit) (fun s22 w4 k21 => match s22 with
        | ((v20, v20n, v20c), _) =>
        cl Try.prog 50 [.pointer a0, .slice v4 v4n v4c] w4 fun e25 w5 => ∃ x24 : Int, e25 = Ending.returned (.int .i64 x24) ∧
        pif (x24 == 0) (
          R (.slice v20 v20n v20c) w5) (
          ixA v4 v4n (IntKind.wrap .i64 (x24 - 1)) 1 fun p29 =>
          st w5 (p29.add 0) (.bool false) fun w6 =>
          alc w6 [.int .i64 x24] 3 fun b31 w7 =>
          ∃ (x32 : Option Addr) (x32n x32c : Nat), ∃ w8 : World, (Builtin.append_ #[33, 33] 33 #[.slice v20 v20n v20c, .slice (some (⟨b31, 0, none⟩ : Addr)) 1 1]).run Try.prog w7 = .ok (.slice x32 x32n x32c) w8 ∧
          k21 ((x32, x32n, x32c), ()) w8)) ((none, 0, 0), ()) w1)) ((none, 0, 0), 0, ()) w
def An43 : An := .seq (.leaf) (.seq (.leaf) (.seq (.seq (.leaf) (.blk (.loop [(3, .one (.slc)), (4, .one (.int .i64))] (.seq (.seq (.leaf) (.cond (.leaf) (.leaf))) (.seq (.blk (.leaf)) (.leaf)))))) (.seq (.leaf) (.blk (.loop [(5, .one (.slc))] (.blk (.seq (.leaf) (.seq (.seq (.leaf) (.cond (.seq (.leaf) (.leaf)) (.leaf))) (.seq (.leaf) (.leaf))))))))))
theorem V43_eq (a0 : Option Addr) (w : World) (R : Value → World → Prop) : evF Try.prog Try.f43 An43 [.pointer a0] w R = V43 a0 w R := by kernel_rfl
theorem V43_calls (a0 : Option Addr) (w : World) (R : Value → World → Prop) (h : V43 a0 w R) : Calls Try.prog 43 #[.pointer a0] w fun e w' => ∃ v, e = .returned v ∧ R v w' :=
  calls_of_ev (args := [.pointer a0]) Try.func43 (Nat.le_of_ble_eq_true (by kernel_rfl)) (by rw [V43_eq]; exact h)
theorem ok43 : fnOk Try.prog 43 = true := by kernel_rfl

/-! (*depot/heat.heap[int]).take -/
def V44 (a0 : Option Addr) (w : World) (R : Value → World → Prop) : Prop :=
  nn a0 fun p3 =>
  ldC w (p3.add 0) fun x4 x4n x4c =>
  ixA x4 x4n 0 1 fun p5 =>
  ldI .i64 w p5 fun x6 =>
  nn a0 fun p8 =>
  ldC w (p8.add 1) fun x9 x9n x9c =>
  ixA x9 x9n (IntKind.wrap .i64 (x6 - 1)) 1 fun p10 =>
  st w (p10.add 0) (.int .i64 (-1)) fun w1 =>
  nn a0 fun p11 =>
  ldC (World.drew w1) (p11.add 0) fun x12 x12n x12c =>
  nn a0 fun p13 =>
  ldC (World.drew w1) (p13.add 0) fun x14 x14n x14c =>
  ixA x12 x12n (IntKind.wrap .i64 ((x14n : Int) - 1)) 1 fun p15 =>
  ldI .i64 (World.drew w1) p15 fun x16 =>
  nn a0 fun p17 =>
  ldC (World.drew (World.drew w1)) (p17.add 0) fun x18 x18n x18c =>
  nn a0 fun p19 =>
  ldC (World.drew (World.drew w1)) (p19.add 0) fun x20 x20n x20c =>
  0 ≤ (IntKind.wrap .i64 ((x20n : Int) - 1)) ∧ (IntKind.wrap .i64 ((x20n : Int) - 1)) ≤ (x18c : Int) ∧
  nn a0 fun p21 =>
  st (World.drew (World.drew w1)) ((p21.add 0).add 0) (.slice (slA x18 x18c 0 1) ((Int.toNat (IntKind.wrap .i64 ((x20n : Int) - 1))) - 0) (x18c - 0)) fun w2 =>
  jn (σ := Unit) (fun k22 =>
    nn a0 fun p25 =>
    ldC w2 (p25.add 0) fun x26 x26n x26c =>
    pif (decide ((x26n : Int) > 0)) (
      cl Try.prog 28 [.pointer a0, .int .i64 0, .int .i64 x16] w2 fun e28 w4 => e28 = Ending.returned (.tuple #[]) ∧
      cl Try.prog 51 [.pointer a0, .int .i64 0] w4 fun e30 w5 => e30 = Ending.returned (.tuple #[]) ∧
      k22 (()) w5) (
      k22 (()) w2)) fun s23 w3 => match s23 with
  | (_) =>
  R (.int .i64 x6) w3
def An44 : An := .seq (.leaf) (.seq (.leaf) (.seq (.leaf) (.seq (.draw [0, 1, 3, 7, 0, 16, 48, 112, 240, 496, 1023, 2047, 4095]) (.seq (.draw [0, 0, 2, 6, 14, 0, 32, 96, 224, 480, 992, 2046, 4095, 8191, 16383]) (.seq (.join [] (.seq (.leaf) (.cond (.seq (.leaf) (.leaf)) (.leaf)))) (.seq (.leaf) (.leaf)))))))
theorem V44_eq (a0 : Option Addr) (w : World) (R : Value → World → Prop) : evF Try.prog Try.f44 An44 [.pointer a0] w R = V44 a0 w R := by kernel_rfl
theorem V44_calls (a0 : Option Addr) (w : World) (R : Value → World → Prop) (h : V44 a0 w R) : Calls Try.prog 44 #[.pointer a0] w fun e w' => ∃ v, e = .returned v ∧ R v w' :=
  calls_of_ev (args := [.pointer a0]) Try.func44 (Nat.le_of_ble_eq_true (by kernel_rfl)) (by rw [V44_eq]; exact h)
theorem ok44 : fnOk Try.prog 44 = true := by kernel_rfl

/-! (*depot/heat.heap[int]).put -/
def V45 (a0 : Option Addr) (a1 : Int) (w : World) (R : Value → World → Prop) : Prop :=
  nn a0 fun p2 =>
  ldC w (p2.add 0) fun x3 x3n x3c =>
  alc w [.int .i64 a1] 3 fun b4 w1 =>
  ∃ (x5 : Option Addr) (x5n x5c : Nat), ∃ w2 : World, (Builtin.append_ #[33, 33] 33 #[.slice x3 x3n x3c, .slice (some (⟨b4, 0, none⟩ : Addr)) 1 1]).run Try.prog w1 = .ok (.slice x5 x5n x5c) w2 ∧
  nn a0 fun p6 =>
  st w2 ((p6.add 0).add 0) (.slice x5 x5n x5c) fun w3 =>
  nn a0 fun p8 =>
  ldC w3 (p8.add 0) fun x9 x9n x9c =>
  cl Try.prog 31 [.pointer a0, .int .i64 (IntKind.wrap .i64 ((x9n : Int) - 1))] w3 fun e10 w4 => e10 = Ending.returned (.tuple #[]) ∧
  R (.tuple #[]) w4
def An45 : An := .seq (.leaf) (.leaf)
theorem V45_eq (a0 : Option Addr) (a1 : Int) (w : World) (R : Value → World → Prop) : evF Try.prog Try.f45 An45 [.pointer a0, .int .i64 a1] w R = V45 a0 a1 w R := by kernel_rfl
theorem V45_calls (a0 : Option Addr) (a1 : Int) (w : World) (R : Value → World → Prop) (h : V45 a0 a1 w R) : Calls Try.prog 45 #[.pointer a0, .int .i64 a1] w fun e w' => ∃ v, e = .returned v ∧ R v w' :=
  calls_of_ev (args := [.pointer a0, .int .i64 a1]) Try.func45 (Nat.le_of_ble_eq_true (by kernel_rfl)) (by rw [V45_eq]; exact h)
theorem ok45 : fnOk Try.prog 45 = true := by kernel_rfl

/-! (*depot/depotref14.Heat).scale -/
def V49 (a0 : Option Addr) (w : World) (R : Value → World → Prop) : Prop :=
  lp (σ := Int × Unit) (fun s4 w1 k3 => match s4 with
    | (v2, _) =>
    nn a0 fun p6 =>
    ldC w1 (p6.add 0) fun x7 x7n x7c =>
    pif (decide (v2 < (x7n : Int))) (
      nn a0 fun p8 =>
      ldC (World.drew w1) (p8.add 0) fun x9 x9n x9c =>
      nn a0 fun p10 =>
      ldC (World.drew w1) (p10.add 0) fun x11 x11n x11c =>
      ixA x11 x11n v2 1 fun p12 =>
      ldF .f64 (World.drew w1) p12 fun x13 =>
      ∃ x14 : Nat, (FloatKind.format .f64).mul x13 3110860544497550640 = some x14 ∧
      ixA x9 x9n v2 1 fun p15 =>
      st (World.drew w1) (p15.add 0) (.float .f64 x14) fun w2 =>
      k3 ((IntKind.wrap .i64 (v2 + 1)), ()) w2) (
      nn a0 fun p18 =>
      ldF .f64 w1 (p18.add 2) fun x19 =>
      ∃ x20 : Nat, (FloatKind.format .f64).mul x19 3110860544497550640 = some x20 ∧
      nn a0 fun p21 =>
      st w1 ((p21.add 2).add 0) (.float .f64 x20) fun w3 =>
      R (.tuple #[]) w3)) (0, ()) w
def An49 : An := .seq (.seq (.leaf) (.blk (.loop [(2, .one (.int .i64))] (.seq (.seq (.leaf) (.cond (.leaf) (.leaf))) (.seq (.blk (.draw [0, 1, 3, 7, 0, 0, 32, 96, 224, 0, 992, 2016, 4064, 8191, 16383])) (.leaf)))))) (.leaf)
theorem V49_eq (a0 : Option Addr) (w : World) (R : Value → World → Prop) : evF Try.prog Try.f49 An49 [.pointer a0] w R = V49 a0 w R := by kernel_rfl
theorem V49_calls (a0 : Option Addr) (w : World) (R : Value → World → Prop) (h : V49 a0 w R) : Calls Try.prog 49 #[.pointer a0] w fun e w' => ∃ v, e = .returned v ∧ R v w' :=
  calls_of_ev (args := [.pointer a0]) Try.func49 (Nat.le_of_ble_eq_true (by kernel_rfl)) (by rw [V49_eq]; exact h)
theorem ok49 : fnOk Try.prog 49 = true := by kernel_rfl

/-! (*depot/depotref14.Heat).warmest -/
def V50 (a0 : Option Addr) (a1 : Option Addr) (a1n : Nat) (a1c : Nat) (w : World) (R : Value → World → Prop) : Prop :=
  lp (σ := Int × Int × Unit) (fun s7 w1 k6 => match s7 with
    | (v4, v5, _) =>
    nn a0 fun p9 =>
    ldC w1 (p9.add 0) fun x10 x10n x10c =>
    pif (decide (v5 ≤ (x10n : Int))) (
      jn (σ := Int × Unit) (fun k12 =>
        ixA a1 a1n (IntKind.wrap .i64 (v5 - 1)) 1 fun p14 =>
        ldB (World.drew w1) p14 fun x15 =>
        gd (α := Addr) (x15 && (!(v4 == 0))) (fun k16 =>
          nn a0 fun p17 =>
          k16 p17 (World.drew w1)) ⟨0, 0, none⟩ (World.drew w1) fun x18 _ =>
        gd (α := (Option Addr × Nat × Nat)) (x15 && (!(v4 == 0))) (fun k19 =>
          ldC (World.drew w1) (x18.add 0) fun x20 x20n x20c =>
          k19 (x20, x20n, x20c) (World.drew w1)) (none, 0, 0) (World.drew w1) fun x21 _ =>
        gd (α := Addr) (x15 && (!(v4 == 0))) (fun k22 =>
          ixA x21.1 x21.2.1 (IntKind.wrap .i64 (v5 - 1)) 1 fun p23 =>
          k22 p23 (World.drew w1)) ⟨0, 0, none⟩ (World.drew w1) fun x24 _ =>
        gd (α := Nat) (x15 && (!(v4 == 0))) (fun k25 =>
          ldF .f64 (World.drew w1) x24 fun x26 =>
          k25 x26 (World.drew w1)) 0 (World.drew w1) fun x27 _ =>
        gd (α := Addr) (x15 && (!(v4 == 0))) (fun k28 =>
          nn a0 fun p29 =>
          k28 p29 (World.drew w1)) ⟨0, 0, none⟩ (World.drew w1) fun x30 _ =>
        gd (α := (Option Addr × Nat × Nat)) (x15 && (!(v4 == 0))) (fun k31 =>
          ldC (World.drew w1) (x30.add 0) fun x32 x32n x32c =>
          k31 (x32, x32n, x32c) (World.drew w1)) (none, 0, 0) (World.drew w1) fun x33 _ =>
        gd (α := Addr) (x15 && (!(v4 == 0))) (fun k34 =>
          ixA x33.1 x33.2.1 (IntKind.wrap .i64 (v4 - 1)) 1 fun p35 =>
          k34 p35 (World.drew w1)) ⟨0, 0, none⟩ (World.drew w1) fun x36 _ =>
        gd (α := Nat) (x15 && (!(v4 == 0))) (fun k37 =>
          ldF .f64 (World.drew w1) x36 fun x38 =>
          k37 x38 (World.drew w1)) 0 (World.drew w1) fun x39 _ =>
        pif (cond x15 (cond (v4 == 0) true ((FloatKind.format .f64).order x27 x39 == some .gt)) false) (
          k12 (v5, ()) (World.drew w1)) (
          k12 (v4, ()) (World.drew w1))) fun s13 w2 => match s13 with
      | (v11, _) =>
      k6 (v11, (IntKind.wrap .i64 (v5 + 1)), ()) w2) (
      R (.int .i64 v4) w1)) (0, 1, ()) w
def An50 : An := .seq (.leaf) (.seq (.leaf) (.seq (.seq (.leaf) (.blk (.loop [(5, .one (.int .i64)), (6, .one (.int .i64))] (.seq (.seq (.leaf) (.cond (.leaf) (.leaf))) (.seq (.join [(5, .one (.int .i64))] (.blk (.seq (.draw [0, 0, 2, 7, 15, 31, 63, 127, 255, 511, 1023, 2047, 4095, 511, 8703, 32767, 65535, 511, 131583, 393727, 918015, 511, 2097663, 8258047, 16646655, 33554431, 67108863, 134217727]) (.cond (.leaf) (.leaf))))) (.leaf)))))) (.seq (.leaf) (.leaf))))
theorem V50_eq (a0 : Option Addr) (a1 : Option Addr) (a1n : Nat) (a1c : Nat) (w : World) (R : Value → World → Prop) : evF Try.prog Try.f50 An50 [.pointer a0, .slice a1 a1n a1c] w R = V50 a0 a1 a1n a1c w R := by kernel_rfl
theorem V50_calls (a0 : Option Addr) (a1 : Option Addr) (a1n : Nat) (a1c : Nat) (w : World) (R : Value → World → Prop) (h : V50 a0 a1 a1n a1c w R) : Calls Try.prog 50 #[.pointer a0, .slice a1 a1n a1c] w fun e w' => ∃ v, e = .returned v ∧ R v w' :=
  calls_of_ev (args := [.pointer a0, .slice a1 a1n a1c]) Try.func50 (Nat.le_of_ble_eq_true (by kernel_rfl)) (by rw [V50_eq]; exact h)
theorem ok50 : fnOk Try.prog 50 = true := by kernel_rfl

end Go.Proofs.Ytfifgopmegbifaa.T
