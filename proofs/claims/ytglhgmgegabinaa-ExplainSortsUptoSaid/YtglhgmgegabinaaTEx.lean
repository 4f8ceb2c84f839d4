/- The conditions under which the functions printed here return, as propositions over typed values; each is the machine's own, by the generator's theorem. -/
import Derived.Test.YtglhgmgegabinaaProg
import Derived.Test.YtglhgmgegabinaaVcG
set_option linter.unusedVariables false
set_option maxRecDepth 100000
namespace Go.Proofs.Ytglhgmgegabinaa.T
open Go Go.Proofs.Ytglhgmgegabinaa.Vc
/-! depot/depotlaw29.ExplainReasons -/
def V3 (a0_0 : Int) (a0_1 : Int) (a0_2 : Option Addr) (a0_2n : Nat) (a0_2c : Nat) (a1 : Option Addr) (a1n : Nat) (a1c : Nat) (w : World) (R : Value → World → Prop) : Prop :=
  alc w [.int .i64 a0_0, .int .i64 a0_1, .slice a0_2 a0_2n a0_2c] 24 fun b2 w1 =>
  alc w1 [.int .i64 6, .int .i64 0, .int .i64 0, .int .i64 0, .int .i64 6, .int .i64 0, .int .i64 0, .int .i64 0] 30 fun b4 w2 =>
  alc w2 [.int .i64 0, .int .i64 1] 3 fun b5 w3 =>
  cl Try.prog 5 [.agg #[.int .i64 0, .int .i64 0, .slice (some (⟨b4, 0, none⟩ : Addr)) 2 2], .slice (some (⟨b5, 0, none⟩ : Addr)) 2 2] w3 fun e8 w4 => ∃ (x6 : Option Addr) (x6n x6c : Nat), ∃ x7 : Int, e8 = Ending.returned (.tuple #[.slice x6 x6n x6c, .int .i64 x7]) ∧
  pif (cond ((x6n : Int) != 1) true (x7 != 0)) (
    R (.bool false) w4) (
    ldI .i64 w4 ((⟨b2, 0, none⟩ : Addr).add 0) fun x12 =>
    ldI .i64 w4 ((⟨b2, 0, none⟩ : Addr).add 1) fun x13 =>
    ldC w4 ((⟨b2, 0, none⟩ : Addr).add 2) fun x14 x14n x14c =>
    cl Try.prog 5 [.agg #[.int .i64 x12, .int .i64 x13, .slice x14 x14n x14c], .slice a1 a1n a1c] w4 fun e17 w5 => ∃ (x15 : Option Addr) (x15n x15c : Nat), ∃ x16 : Int, e17 = Ending.returned (.tuple #[.slice x15 x15n x15c, .int .i64 x16]) ∧
    ldI .i64 w5 ((⟨b2, 0, none⟩ : Addr).add 0) fun x19 =>
    ldI .i64 w5 ((⟨b2, 0, none⟩ : Addr).add 1) fun x20 =>
    ldC w5 ((⟨b2, 0, none⟩ : Addr).add 2) fun x21 x21n x21c =>
    cl Try.prog 6 [.agg #[.int .i64 x19, .int .i64 x20, .slice x21 x21n x21c], .slice a1 a1n a1c] w5 fun e24 w6 => ∃ (x22 : Option Addr) (x22n x22c : Nat), ∃ x23 : Int, e24 = Ending.returned (.tuple #[.slice x22 x22n x22c, .int .i64 x23]) ∧
    gd (α := Bool) (x16 == x23) (fun k26 =>
      cl Try.prog 7 [.slice x15 x15n x15c, .slice x22 x22n x22c] w6 fun e28 w7 => ∃ x27 : Bool, e28 = Ending.returned (.bool x27) ∧
      k26 x27 w7) false w6 fun x29 w8 =>
    R (.bool (cond (x16 == x23) x29 false)) w8)
def An3 : An := .seq (.leaf) (.seq (.leaf) (.seq (.seq (.leaf) (.cond (.seq (.leaf) (.leaf)) (.leaf))) (.seq (.leaf) (.seq (.leaf) (.seq (.leaf) (.leaf))))))
theorem V3_eq (a0_0 : Int) (a0_1 : Int) (a0_2 : Option Addr) (a0_2n : Nat) (a0_2c : Nat) (a1 : Option Addr) (a1n : Nat) (a1c : Nat) (w : World) (R : Value → World → Prop) : evF Try.prog Try.f3 An3 [.agg #[.int .i64 a0_0, .int .i64 a0_1, .slice a0_2 a0_2n a0_2c], .slice a1 a1n a1c] w R = V3 a0_0 a0_1 a0_2 a0_2n a0_2c a1 a1n a1c w R := by kernel_rfl
theorem V3_calls (a0_0 : Int) (a0_1 : Int) (a0_2 : Option Addr) (a0_2n : Nat) (a0_2c : Nat) (a1 : Option Addr) (a1n : Nat) (a1c : Nat) (w : World) (R : Value → World → Prop) (h : V3 a0_0 a0_1 a0_2 a0_2n a0_2c a1 a1n a1c w R) : Calls Try.prog 3 #[.agg #[.int .i64 a0_0, .int .i64 a0_1, .slice a0_2 a0_2n a0_2c], .slice a1 a1n a1c] w fun e w' => ∃ v, e = .returned v ∧ R v w' :=
  calls_of_ev (args := [.agg #[.int .i64 a0_0, .int .i64 a0_1, .slice a0_2 a0_2n a0_2c], .slice a1 a1n a1c]) Try.func3 (Nat.le_of_ble_eq_true (by kernel_rfl)) (by rw [V3_eq]; exact h)
theorem ok3 : fnOk Try.prog 3 = true := by kernel_rfl

/-! depot/depotlaw29.ExplainSorts -/
def V4 (a0_0 : Int) (a0_1 : Int) (a0_2 : Option Addr) (a0_2n : Nat) (a0_2c : Nat) (a1 : Option Addr) (a1n : Nat) (a1c : Nat) (w : World) (R : Value → World → Prop) : Prop :=
  alc w [.int .i64 a0_0, .int .i64 a0_1, .slice a0_2 a0_2n a0_2c] 24 fun b2 w1 =>
  alc w1 [.int .i64 6, .int .i64 0, .int .i64 0, .int .i64 0, .int .i64 2, .int .i64 0, .int .i64 0, .int .i64 0, .int .i64 6, .int .i64 0, .int .i64 0, .int .i64 0] 30 fun b4 w2 =>
  alc w2 [.int .i64 0, .int .i64 1, .int .i64 2] 3 fun b5 w3 =>
  cl Try.prog 5 [.agg #[.int .i64 0, .int .i64 0, .slice (some (⟨b4, 0, none⟩ : Addr)) 3 3], .slice (some (⟨b5, 0, none⟩ : Addr)) 3 3] w3 fun e8 w4 => ∃ (x6 : Option Addr) (x6n x6c : Nat), ∃ x7 : Int, e8 = Ending.returned (.tuple #[.slice x6 x6n x6c, .int .i64 x7]) ∧
  gd (α := (Option Addr × Nat × Nat)) (!(x7 != 0)) (fun k10 =>
    alc w4 [.int .i64 2, .int .i64 0, .int .i64 0, .int .i64 0, .int .i64 6, .int .i64 0, .int .i64 0, .int .i64 0] 30 fun b11 w5 =>
    k10 ((some (⟨b11, 0, none⟩ : Addr)), 2, 2) w5) (none, 0, 0) w4 fun x12 w6 =>
  gd (α := Bool) (!(x7 != 0)) (fun k13 =>
    cl Try.prog 7 [.slice x6 x6n x6c, .slice x12.1 x12.2.1 x12.2.2] w6 fun e15 w7 => ∃ x14 : Bool, e15 = Ending.returned (.bool x14) ∧
    k13 x14 w7) false w6 fun x16 w8 =>
  pif (cond (x7 != 0) true (!x16)) (
    R (.bool false) w8) (
    ldI .i64 w8 ((⟨b2, 0, none⟩ : Addr).add 0) fun x19 =>
    ldI .i64 w8 ((⟨b2, 0, none⟩ : Addr).add 1) fun x20 =>
    ldC w8 ((⟨b2, 0, none⟩ : Addr).add 2) fun x21 x21n x21c =>
    cl Try.prog 5 [.agg #[.int .i64 x19, .int .i64 x20, .slice x21 x21n x21c], .slice a1 a1n a1c] w8 fun e24 w9 => ∃ (x22 : Option Addr) (x22n x22c : Nat), ∃ x23 : Int, e24 = Ending.returned (.tuple #[.slice x22 x22n x22c, .int .i64 x23]) ∧
    pif (x23 != 0) (
      R (.bool ((x22n : Int) == 0)) w9) (
      lp (σ := Int × Unit) (fun s30 w10 k29 => match s30 with
        | (v28, _) =>
        pif (decide (v28 < (x22n : Int))) (
          ixA x22 x22n (IntKind.wrap .i64 (v28 - 1)) 4 fun p32 =>
          ldI .i64 (World.drew w10) (p32.add 0) fun x33 =>
          ldI .i64 (World.drew w10) (p32.add 1) fun x34 =>
          ldI .i64 (World.drew w10) (p32.add 2) fun x35 =>
          ldI .i64 (World.drew w10) (p32.add 3) fun x36 =>
          ixA x22 x22n v28 4 fun p37 =>
          ldI .i64 (World.drew w10) (p37.add 0) fun x38 =>
          ldI .i64 (World.drew w10) (p37.add 1) fun x39 =>
          ldI .i64 (World.drew w10) (p37.add 2) fun x40 =>
          ldI .i64 (World.drew w10) (p37.add 3) fun x41 =>
          cl Try.prog 8 [.agg #[.int .i64 x33, .int .i64 x34, .int .i64 x35, .int .i64 x36], .agg #[.int .i64 x38, .int .i64 x39, .int .i64 x40, .int .i64 x41]] (World.drew w10) fun e43 w11 => ∃ x42 : Bool, e43 = Ending.returned (.bool x42) ∧
          pif (!x42) (
            R (.bool false) w11) (
            k29 ((IntKind.wrap .i64 (v28 + 1)), ()) w11)) (
          lp (σ := Int × Unit) (fun s49 w12 k48 => match s49 with
            | (v47, _) =>
            pif (decide (v47 < (a1n : Int))) (
              ixA a1 a1n v47 1 fun p51 =>
              ldI .i64 (World.drew w12) p51 fun x52 =>
              gd (α := Addr) (!(decide (x52 < 0))) (fun k53 =>
                ixA a1 a1n v47 1 fun p54 =>
                k53 p54 (World.drew w12)) ⟨0, 0, none⟩ (World.drew w12) fun x55 _ =>
              gd (α := Int) (!(decide (x52 < 0))) (fun k56 =>
                ldI .i64 (World.drew w12) x55 fun x57 =>
                k56 x57 (World.drew w12)) 0 (World.drew w12) fun x58 _ =>
              gd (α := (Option Addr × Nat × Nat)) (!(decide (x52 < 0))) (fun k59 =>
                ldC (World.drew w12) ((⟨b2, 0, none⟩ : Addr).add 2) fun x60 x60n x60c =>
                k59 (x60, x60n, x60c) (World.drew w12)) (none, 0, 0) (World.drew w12) fun x61 _ =>
              gd (α := (Option Addr × Nat × Nat)) (!(cond (decide (x52 < 0)) true (decide (x58 ≥ (x61.2.1 : Int))))) (fun k62 =>
                ldC (World.drew w12) ((⟨b2, 0, none⟩ : Addr).add 2) fun x63 x63n x63c =>
                k62 (x63, x63n, x63c) (World.drew w12)) (none, 0, 0) (World.drew w12) fun x64 _ =>
              gd (α := Addr) (!(cond (decide (x52 < 0)) true (decide (x58 ≥ (x61.2.1 : Int))))) (fun k65 =>
                ixA a1 a1n v47 1 fun p66 =>
                k65 p66 (World.drew w12)) ⟨0, 0, none⟩ (World.drew w12) fun x67 _ =>
              gd (α := Int) (!(cond (decide (x52 < 0)) true (decide (x58 ≥ (x61.2.1 : Int))))) (fun k68 =>
                ldI .i64 (World.drew w12) x67 fun x69 =>
                k68 x69 (World.drew w12)) 0 (World.drew w12) fun x70 _ =>
              gd (α := Addr) (!(cond (decide (x52 < 0)) true (decide (x58 ≥ (x61.2.1 : Int))))) (fun k71 =>
                ixA x64.1 x64.2.1 x70 4 fun p72 =>
                k71 p72 (World.drew w12)) ⟨0, 0, none⟩ (World.drew w12) fun x73 _ =>
              gd (α := (Int × Int × Int × Int × Unit)) (!(cond (decide (x52 < 0)) true (decide (x58 ≥ (x61.2.1 : Int))))) (fun k74 =>
                ldI .i64 (World.drew w12) (x73.add 0) fun x75 =>
                ldI .i64 (World.drew w12) (x73.add 1) fun x76 =>
                ldI .i64 (World.drew w12) (x73.add 2) fun x77 =>
                ldI .i64 (World.drew w12) (x73.add 3) fun x78 =>
                k74 (x75, x76, x77, x78, ()) (World.drew w12)) (0, 0, 0, 0, ()) (World.drew w12) fun x79 _ =>
              gd (α := Bool) (!(cond (decide (x52 < 0)) true (decide (x58 ≥ (x61.2.1 : Int))))) (fun k80 =>
                cl Try.prog 9 [.slice x22 x22n x22c, .agg #[.int .i64 x79.1, .int .i64 x79.2.1, .int .i64 x79.2.2.1, .int .i64 x79.2.2.2.1]] (World.drew w12) fun e82 w13 => ∃ x81 : Bool, e82 = Ending.returned (.bool x81) ∧
                k80 x81 w13) false (World.drew w12) fun x83 w14 =>
              pif (cond (cond (decide (x52 < 0)) true (decide (x58 ≥ (x61.2.1 : Int)))) true (!x83)) (
                R (.bool false) w14) (
                k48 ((IntKind.wrap .i64 (v47 + 1)), ()) w14)) (
              lp (σ := Int × Unit) (fun s89 w15 k88 => match s89 with
                | (v87, _) =>
                pif (decide (v87 < (x22n : Int))) (
                  lp (σ := Bool × Int × Unit) (fun s96 w16 k95 => match s96 with
                    | (v93, v94, _) =>
                    pif (decide (v94 < (a1n : Int))) (
                      jn (σ := Bool × Unit) (fun k99 =>
                        ldC (World.drew w16) ((⟨b2, 0, none⟩ : Addr).add 2) fun x101 x101n x101c =>
                        ixA a1 a1n v94 1 fun p102 =>
                        ldI .i64 (World.drew w16) p102 fun x103 =>
                        ixA x101 x101n x103 4 fun p104 =>
                        ldI .i64 (World.drew w16) (p104.add 0) fun x105 =>
                        ldI .i64 (World.drew w16) (p104.add 1) fun x106 =>
                        ldI .i64 (World.drew w16) (p104.add 2) fun x107 =>
                        ldI .i64 (World.drew w16) (p104.add 3) fun x108 =>
                        ixA x22 x22n v87 4 fun p109 =>
                        ldI .i64 (World.drew w16) (p109.add 0) fun x110 =>
                        ldI .i64 (World.drew w16) (p109.add 1) fun x111 =>
                        ldI .i64 (World.drew w16) (p109.add 2) fun x112 =>
                        ldI .i64 (World.drew w16) (p109.add 3) fun x113 =>
                        eqV Try.prog .eql 30 (.agg #[.int .i64 x105, .int .i64 x106, .int .i64 x107, .int .i64 x108]) (.agg #[.int .i64 x110, .int .i64 x111, .int .i64 x112, .int .i64 x113]) fun q114 =>
                        pif q114 (
                          k99 (true, ()) (World.drew w16)) (
                          k99 (v93, ()) (World.drew w16))) fun s100 w17 => match s100 with
                      | (v98, _) =>
                      k95 (v98, (IntKind.wrap .i64 (v94 + 1)), ()) w17) (
                      pif (!v93) (
                        R (.bool false) w16) (
                        k88 ((IntKind.wrap .i64 (v87 + 1)), ()) w16))) (false, 0, ()) w15) (
                  R (.bool true) w15)) (0, ()) w12)) (0, ()) w10)) (1, ()) w9))
def An4 : An := .seq (.leaf) (.seq (.leaf) (.seq (.seq (.leaf) (.cond (.seq (.leaf) (.leaf)) (.leaf))) (.seq (.leaf) (.seq (.seq (.leaf) (.cond (.seq (.leaf) (.leaf)) (.leaf))) (.seq (.seq (.leaf) (.blk (.loop [(8, .one (.int .i64))] (.seq (.seq (.leaf) (.cond (.leaf) (.leaf))) (.seq (.blk (.seq (.draw [0, 0, 2, 7, 15, 0, 0, 96, 224, 511, 1023]) (.cond (.seq (.leaf) (.leaf)) (.leaf)))) (.leaf)))))) (.seq (.seq (.leaf) (.blk (.loop [(9, .one (.int .i64))] (.seq (.seq (.leaf) (.cond (.leaf) (.leaf))) (.seq (.blk (.seq (.draw [0, 0, 3, 7, 15, 31, 63, 63, 255, 511, 63, 1087, 3135, 8191, 16383, 32767, 65535, 65535, 196607, 65535, 65535, 1638399, 3735551, 8323071, 16711679, 33554431, 67108863, 134217727]) (.cond (.seq (.leaf) (.leaf)) (.leaf)))) (.leaf)))))) (.seq (.seq (.leaf) (.blk (.loop [(10, .one (.int .i64))] (.seq (.seq (.leaf) (.cond (.leaf) (.leaf))) (.seq (.blk (.seq (.leaf) (.seq (.seq (.leaf) (.blk (.loop [(11, .one (.bool)), (12, .one (.int .i64))] (.seq (.seq (.leaf) (.cond (.leaf) (.leaf))) (.seq (.join [(11, .one (.bool))] (.blk (.seq (.draw [0, 1, 0, 0, 12, 28, 63, 127, 0, 0, 768, 1792, 4095]) (.cond (.leaf) (.leaf))))) (.leaf)))))) (.seq (.leaf) (.cond (.seq (.leaf) (.leaf)) (.leaf)))))) (.leaf)))))) (.seq (.leaf) (.leaf)))))))))
theorem V4_eq (a0_0 : Int) (a0_1 : Int) (a0_2 : Option Addr) (a0_2n : Nat) (a0_2c : Nat) (a1 : Option Addr) (a1n : Nat) (a1c : Nat) (w : World) (R : Value → World → Prop) : evF Try.prog Try.f4 An4 [.agg #[.int .i64 a0_0, .int .i64 a0_1, .slice a0_2 a0_2n a0_2c], .slice a1 a1n a1c] w R = V4 a0_0 a0_1 a0_2 a0_2n a0_2c a1 a1n a1c w R := by kernel_rfl
theorem V4_calls (a0_0 : Int) (a0_1 : Int) (a0_2 : Option Addr) (a0_2n : Nat) (a0_2c : Nat) (a1 : Option Addr) (a1n : Nat) (a1c : Nat) (w : World) (R : Value → World → Prop) (h : V4 a0_0 a0_1 a0_2 a0_2n a0_2c a1 a1n a1c w R) : Calls Try.prog 4 #[.agg #[.int .i64 a0_0, .int .i64 a0_1, .slice a0_2 a0_2n a0_2c], .slice a1 a1n a1c] w fun e w' => ∃ v, e = .returned v ∧ R v w' :=
  calls_of_ev (args := [.agg #[.int .i64 a0_0, .int .i64 a0_1, .slice a0_2 a0_2n a0_2c], .slice a1 a1n a1c]) Try.func4 (Nat.le_of_ble_eq_true (by kernel_rfl)) (by rw [V4_eq]; exact h)
theorem ok4 : fnOk Try.prog 4 = true := by kernel_rfl

/-! depot/explain.Reasons -/
def V5 (a0_0 : Int) (a0_1 : Int) (a0_2 : Option Addr) (a0_2n : Nat) (a0_2c : Nat) (a1 : Option Addr) (a1n : Nat) (a1c : Nat) (w : World) (R : Value → World → Prop) : Prop :=
  alc w [.int .i64 a0_0, .int .i64 a0_1, .slice a0_2 a0_2n a0_2c] 24 fun b2 w1 =>
  ldI .i64 w1 ((⟨b2, 0, none⟩ : Addr).add 0) fun x4 =>
  gd (α := Int) (!(decide (x4 < 0))) (fun k5 =>
    ldI .i64 w1 ((⟨b2, 0, none⟩ : Addr).add 0) fun x6 =>
    k5 x6 w1) 0 w1 fun x7 w2 =>
  gd (α := Int) (!(decide (x4 < 0))) (fun k8 =>
    ldI .i64 w2 ((⟨b2, 0, none⟩ : Addr).add 1) fun x9 =>
    k8 x9 w2) 0 w2 fun x10 w3 =>
  gd (α := Int) (!(cond (decide (x4 < 0)) true (decide (x7 > x10)))) (fun k11 =>
    ldI .i64 w3 ((⟨b2, 0, none⟩ : Addr).add 1) fun x12 =>
    k11 x12 w3) 0 w3 fun x13 w4 =>
  pif (cond (cond (decide (x4 < 0)) true (decide (x7 > x10))) true (decide (x13 > 1048576))) (
    R (.tuple #[.slice none 0 0, .int .i64 1]) w4) (
    ldC w4 ((⟨b2, 0, none⟩ : Addr).add 2) fun x16 x16n x16c =>
    cl Try.prog 10 [.slice a1 a1n a1c, .int .i64 (x16n : Int)] w4 fun e18 w5 => ∃ x17 : Bool, e18 = Ending.returned (.bool x17) ∧
    pif (!x17) (
      R (.tuple #[.slice none 0 0, .int .i64 2]) w5) (
      ∃ x21 : Option Nat, ∃ w6 : World, (Instr.makeMap 36 none).run Try.prog w5 = .ok (.map x21) w6 ∧
      lp (σ := (Option Addr × Nat × Nat) × Int × Unit) (fun s27 w7 k26 => match s27 with
        | ((v24, v24n, v24c), v25, _) =>
        pif (decide (v25 < (a1n : Int))) (
          jn (σ := (Option Addr × Nat × Nat) × Unit) (fun k30 =>
            ixA a1 a1n v25 1 fun p33 =>
            ldI .i64 w7 p33 fun x34 =>
            ldC w7 ((⟨b2, 0, none⟩ : Addr).add 2) fun x36 x36n x36c =>
            ixA x36 x36n x34 4 fun p37 =>
            ldI .i64 w7 (p37.add 0) fun x38 =>
            ldI .i64 w7 (p37.add 1) fun x39 =>
            ldI .i64 w7 (p37.add 2) fun x40 =>
            ldI .i64 w7 (p37.add 3) fun x41 =>
            alc w7 [.int .i64 0, .int .i64 0, .int .i64 0, .int .i64 0] 30 fun b42 w9 =>
            st w9 ((⟨b42, 0, none⟩ : Addr).add 0) (.int .i64 x38) fun w10 =>
            st w10 ((⟨b42, 0, none⟩ : Addr).add 1) (.int .i64 x39) fun w11 =>
            st w11 ((⟨b42, 0, none⟩ : Addr).add 2) (.int .i64 x40) fun w12 =>
            st w12 ((⟨b42, 0, none⟩ : Addr).add 3) (.int .i64 x41) fun w13 =>
            ldI .i64 (World.drew w13) ((⟨b42, 0, none⟩ : Addr).add 0) fun x43 =>
            ldI .i64 (World.drew w13) ((⟨b42, 0, none⟩ : Addr).add 1) fun x44 =>
            ldI .i64 (World.drew w13) ((⟨b42, 0, none⟩ : Addr).add 2) fun x45 =>
            ldI .i64 (World.drew w13) ((⟨b42, 0, none⟩ : Addr).add 3) fun x46 =>
            (
              ∃ x47 : Int, ∃ w14 : World, (Instr.lookup 36 (.map x21) (.agg #[.int .i64 x43, .int .i64 x44, .int .i64 x45, .int .i64 x46]) false).run Try.prog (World.drew w13) = .ok (.int .i64 x47) w14 ∧
              ∃ (x48 x49 : Int) (w15 : World), (Instr.mapEntry 36 (.map x21) (.agg #[.int .i64 x43, .int .i64 x44, .int .i64 x45, .int .i64 x46])).run Try.prog w14 = .ok (.tuple #[.int .i64 x48, .int .i64 x49]) w15 ∧
              ∃ w16 : World, (Instr.entryStore 36 (.map x21) (.int .i64 x49) (.int .i64 (IntKind.wrap .i64 (x47 + 1)))).run Try.prog w15 = .ok () w16 ∧
              ldI .i64 w16 ((⟨b42, 0, none⟩ : Addr).add 0) fun x51 =>
              ldI .i64 w16 ((⟨b42, 0, none⟩ : Addr).add 1) fun x52 =>
              ldI .i64 w16 ((⟨b42, 0, none⟩ : Addr).add 2) fun x53 =>
              ldI .i64 w16 ((⟨b42, 0, none⟩ : Addr).add 3) fun x54 =>
              ∃ x55 : Int, ∃ w17 : World, (Instr.lookup 36 (.map x21) (.agg #[.int .i64 x51, .int .i64 x52, .int .i64 x53, .int .i64 x54]) false).run Try.prog w16 = .ok (.int .i64 x55) w17 ∧
              pif (x55 == 1) (
                ldI .i64 w17 ((⟨b42, 0, none⟩ : Addr).add 0) fun x57 =>
                ldI .i64 w17 ((⟨b42, 0, none⟩ : Addr).add 1) fun x58 =>
                ldI .i64 w17 ((⟨b42, 0, none⟩ : Addr).add 2) fun x59 =>
                ldI .i64 w17 ((⟨b42, 0, none⟩ : Addr).add 3) fun x60 =>
                alc w17 [.int .i64 x57, .int .i64 x58, .int .i64 x59, .int .i64 x60] 30 fun b61 w18 =>
                ∃ (x62 : Option Addr) (x62n x62c : Nat), ∃ w19 : World, (Builtin.append_ #[22, 22] 22 #[.slice v24 v24n v24c, .slice (some (⟨b61, 0, none⟩ : Addr)) 1 1]).run Try.prog w18 = .ok (.slice x62 x62n x62c) w19 ∧
                k30 ((x62, x62n, x62c), ()) w19) (
                k30 ((v24, v24n, v24c), ()) w17)) ∧
            (
              ∃ (x63 x64 : Int) (w20 : World), (Instr.mapEntry 36 (.map x21) (.agg #[.int .i64 x43, .int .i64 x44, .int .i64 x45, .int .i64 x46])).run Try.prog (World.drew w13) = .ok (.tuple #[.int .i64 x63, .int .i64 x64]) w20 ∧
              ∃ x65 : Int, ∃ w21 : World, (Instr.lookup 36 (.map x21) (.agg #[.int .i64 x43, .int .i64 x44, .int .i64 x45, .int .i64 x46]) false).run Try.prog w20 = .ok (.int .i64 x65) w21 ∧
              ∃ w22 : World, (Instr.entryStore 36 (.map x21) (.int .i64 x64) (.int .i64 (IntKind.wrap .i64 (x65 + 1)))).run Try.prog w21 = .ok () w22 ∧
              ldI .i64 w22 ((⟨b42, 0, none⟩ : Addr).add 0) fun x67 =>
              ldI .i64 w22 ((⟨b42, 0, none⟩ : Addr).add 1) fun x68 =>
              ldI .i64 w22 ((⟨b42, 0, none⟩ : Addr).add 2) fun x69 =>
              ldI .i64 w22 ((⟨b42, 0, none⟩ : Addr).add 3) fun x70 =>
              ∃ x71 : Int, ∃ w23 : World, (Instr.lookup 36 (.map x21) (.agg #[.int .i64 x67, .int .i64 x68, .int .i64 x69, .int .i64 x70]) false).run Try.prog w22 = .ok (.int .i64 x71) w23 ∧
              pif (x71 == 1) (
                ldI .i64 w23 ((⟨b42, 0, none⟩ : Addr).add 0) fun x73 =>
                ldI .i64 w23 ((⟨b42, 0, none⟩ : Addr).add 1) fun x74 =>
                ldI .i64 w23 ((⟨b42, 0, none⟩ : Addr).add 2) fun x75 =>
                ldI .i64 w23 ((⟨b42, 0, none⟩ : Addr).add 3) fun x76 =>
                alc w23 [.int .i64 x73, .int .i64 x74, .int .i64 x75, .int .i64 x76] 30 fun b77 w24 =>
                ∃ (x78 : Option Addr) (x78n x78c : Nat), ∃ w25 : World, (Builtin.append_ #[22, 22] 22 #[.slice v24 v24n v24c, .slice (some (⟨b77, 0, none⟩ : Addr)) 1 1]).run Try.prog w24 = .ok (.slice x78 x78n x78c) w25 ∧
                k30 ((x78, x78n, x78c), ()) w25) (
                k30 ((v24, v24n, v24c), ()) w23))) fun s31 w8 => match s31 with
          | ((v29, v29n, v29c), _) =>
          k26 ((v29, v29n, v29c), (IntKind.wrap .i64 (v25 + 1)), ()) w8) (
          cl Try.prog 11 [.slice v24 v24n v24c, .func (.func 12) #[] #[]] w7 fun e81 w26 => e81 = Ending.returned (.tuple #[]) ∧
          R (.tuple #[.slice v24 v24n v24c, .int .i64 0]) w26)) ((none, 0, 0), 0, ()) w6))
def An5 : An := .seq (.leaf) (.seq (.seq (.leaf) (.cond (.seq (.leaf) (.leaf)) (.leaf))) (.seq (.seq (.leaf) (.cond (.seq (.leaf) (.leaf)) (.leaf))) (.seq (.leaf) (.seq (.leaf) (.seq (.seq (.leaf) (.blk (.loop [(7, .one (.slc)), (35, .one (.int .i64))] (.seq (.leaf) (.seq (.cond (.leaf) (.leaf)) (.seq (.join [(7, .one (.slc))] (.blk (.seq (.leaf) (.seq (.leaf) (.seq (.draw [0, 0, 3, 7, 3, 19, 63]) (.seq (.leaf) (.cond (.leaf) (.leaf)))))))) (.leaf))))))) (.seq (.leaf) (.seq (.leaf) (.leaf))))))))
theorem V5_eq (a0_0 : Int) (a0_1 : Int) (a0_2 : Option Addr) (a0_2n : Nat) (a0_2c : Nat) (a1 : Option Addr) (a1n : Nat) (a1c : Nat) (w : World) (R : Value → World → Prop) : evF Try.prog Try.f5 An5 [.agg #[.int .i64 a0_0, .int .i64 a0_1, .slice a0_2 a0_2n a0_2c], .slice a1 a1n a1c] w R = V5 a0_0 a0_1 a0_2 a0_2n a0_2c a1 a1n a1c w R := by kernel_rfl
theorem V5_calls (a0_0 : Int) (a0_1 : Int) (a0_2 : Option Addr) (a0_2n : Nat) (a0_2c : Nat) (a1 : Option Addr) (a1n : Nat) (a1c : Nat) (w : World) (R : Value → World → Prop) (h : V5 a0_0 a0_1 a0_2 a0_2n a0_2c a1 a1n a1c w R) : Calls Try.prog 5 #[.agg #[.int .i64 a0_0, .int .i64 a0_1, .slice a0_2 a0_2n a0_2c], .slice a1 a1n a1c] w fun e w' => ∃ v, e = .returned v ∧ R v w' :=
  calls_of_ev (args := [.agg #[.int .i64 a0_0, .int .i64 a0_1, .slice a0_2 a0_2n a0_2c], .slice a1 a1n a1c]) Try.func5 (Nat.le_of_ble_eq_true (by kernel_rfl)) (by rw [V5_eq]; exact h)
theorem ok5 : fnOk Try.prog 5 = true := by kernel_rfl

/-! depot/depotref29.Reasons -/
def V6 (a0_0 : Int) (a0_1 : Int) (a0_2 : Option Addr) (a0_2n : Nat) (a0_2c : Nat) (a1 : Option Addr) (a1n : Nat) (a1c : Nat) (w : World) (R : Value → World → Prop) : Prop :=
  alc w [.int .i64 a0_0, .int .i64 a0_1, .slice a0_2 a0_2n a0_2c] 24 fun b2 w1 =>
  ldI .i64 w1 ((⟨b2, 0, none⟩ : Addr).add 0) fun x4 =>
  gd (α := Int) (!(decide (x4 < 0))) (fun k5 =>
    ldI .i64 w1 ((⟨b2, 0, none⟩ : Addr).add 0) fun x6 =>
    k5 x6 w1) 0 w1 fun x7 w2 =>
  gd (α := Int) (!(decide (x4 < 0))) (fun k8 =>
    ldI .i64 w2 ((⟨b2, 0, none⟩ : Addr).add 1) fun x9 =>
    k8 x9 w2) 0 w2 fun x10 w3 =>
  gd (α := Int) (!(cond (decide (x4 < 0)) true (decide (x7 > x10)))) (fun k11 =>
    ldI .i64 w3 ((⟨b2, 0, none⟩ : Addr).add 1) fun x12 =>
    k11 x12 w3) 0 w3 fun x13 w4 =>
  pif (cond (cond (decide (x4 < 0)) true (decide (x7 > x10))) true (decide (x13 > 1048576))) (
    R (.tuple #[.slice none 0 0, .int .i64 1]) w4) (
    ldC w4 ((⟨b2, 0, none⟩ : Addr).add 2) fun x16 x16n x16c =>
    cl Try.prog 13 [.slice a1 a1n a1c, .int .i64 (x16n : Int)] w4 fun e18 w5 => ∃ x17 : Bool, e18 = Ending.returned (.bool x17) ∧
    pif (!x17) (
      R (.tuple #[.slice none 0 0, .int .i64 2]) w5) (
      lp (σ := (Option Addr × Nat × Nat) × Int × Unit) (fun s25 w6 k24 => match s25 with
        | ((v22, v22n, v22c), v23, _) =>
        pif (decide (v23 < (a1n : Int))) (
          jn (σ := (Option Addr × Nat × Nat) × Unit) (fun k28 =>
            ldC (World.drew w6) ((⟨b2, 0, none⟩ : Addr).add 2) fun x30 x30n x30c =>
            ixA a1 a1n v23 1 fun p31 =>
            ldI .i64 (World.drew w6) p31 fun x32 =>
            ixA x30 x30n x32 4 fun p33 =>
            ldI .i64 (World.drew w6) (p33.add 0) fun x34 =>
            ldI .i64 (World.drew w6) (p33.add 1) fun x35 =>
            ldI .i64 (World.drew w6) (p33.add 2) fun x36 =>
            ldI .i64 (World.drew w6) (p33.add 3) fun x37 =>
            alc (World.drew w6) [.int .i64 0, .int .i64 0, .int .i64 0, .int .i64 0] 30 fun b38 w8 =>
            (
              ldI .i64 w8 (p33.add 0) fun x39 =>
              ldI .i64 w8 (p33.add 1) fun x40 =>
              ldI .i64 w8 (p33.add 2) fun x41 =>
              ldI .i64 w8 (p33.add 3) fun x42 =>
              ((.agg #[.int .i64 x39, .int .i64 x40, .int .i64 x41, .int .i64 x42] : Value) = .agg #[.int .i64 x34, .int .i64 x35, .int .i64 x36, .int .i64 x37])) ∧
            (
              ldI .i64 w8 p31 fun x43 =>
              ((.int .i64 x43 : Value) = .int .i64 x32)) ∧
            (
              ldC w8 ((⟨b2, 0, none⟩ : Addr).add 2) fun x44 x44n x44c =>
              ((.slice x44 x44n x44c : Value) = .slice x30 x30n x30c)) ∧
            st w8 ((⟨b38, 0, none⟩ : Addr).add 0) (.int .i64 x34) fun w9 =>
            st w9 ((⟨b38, 0, none⟩ : Addr).add 1) (.int .i64 x35) fun w10 =>
            st w10 ((⟨b38, 0, none⟩ : Addr).add 2) (.int .i64 x36) fun w11 =>
            st w11 ((⟨b38, 0, none⟩ : Addr).add 3) (.int .i64 x37) fun w12 =>
            lp (σ := Int × Unit) (fun s48 w13 k47 => match s48 with
              | (v46, _) =>
              gd (α := Addr) (decide (v46 < (v22n : Int))) (fun k49 =>
                ixA v22 v22n v46 4 fun p50 =>
                k49 p50 (World.drew w13)) ⟨0, 0, none⟩ (World.drew w13) fun x51 _ =>
              gd (α := (Int × Int × Int × Int × Unit)) (decide (v46 < (v22n : Int))) (fun k52 =>
                ldI .i64 (World.drew w13) (x51.add 0) fun x53 =>
                ldI .i64 (World.drew w13) (x51.add 1) fun x54 =>
                ldI .i64 (World.drew w13) (x51.add 2) fun x55 =>
                ldI .i64 (World.drew w13) (x51.add 3) fun x56 =>
                k52 (x53, x54, x55, x56, ()) (World.drew w13)) (0, 0, 0, 0, ()) (World.drew w13) fun x57 _ =>
              gd (α := (Int × Int × Int × Int × Unit)) (decide (v46 < (v22n : Int))) (fun k58 =>
                ldI .i64 (World.drew w13) ((⟨b38, 0, none⟩ : Addr).add 0) fun x59 =>
                ldI .i64 (World.drew w13) ((⟨b38, 0, none⟩ : Addr).add 1) fun x60 =>
                ldI .i64 (World.drew w13) ((⟨b38, 0, none⟩ : Addr).add 2) fun x61 =>
                ldI .i64 (World.drew w13) ((⟨b38, 0, none⟩ : Addr).add 3) fun x62 =>
                k58 (x59, x60, x61, x62, ()) (World.drew w13)) (0, 0, 0, 0, ()) (World.drew w13) fun x63 _ =>
              gd (α := Bool) (decide (v46 < (v22n : Int))) (fun k64 =>
                cl Try.prog 14 [.agg #[.int .i64 x57.1, .int .i64 x57.2.1, .int .i64 x57.2.2.1, .int .i64 x57.2.2.2.1], .agg #[.int .i64 x63.1, .int .i64 x63.2.1, .int .i64 x63.2.2.1, .int .i64 x63.2.2.2.1]] (World.drew w13) fun e66 w14 => ∃ x65 : Bool, e66 = Ending.returned (.bool x65) ∧
                k64 x65 w14) false (World.drew w13) fun x67 w15 =>
              pif (cond (decide (v46 < (v22n : Int))) x67 false) (
                k47 ((IntKind.wrap .i64 (v46 + 1)), ()) w15) (
                gd (α := Addr) (decide (v46 < (v22n : Int))) (fun k69 =>
                  ixA v22 v22n v46 4 fun p70 =>
                  k69 p70 (World.drew w15)) ⟨0, 0, none⟩ (World.drew w15) fun x71 _ =>
                gd (α := (Int × Int × Int × Int × Unit)) (decide (v46 < (v22n : Int))) (fun k72 =>
                  ldI .i64 (World.drew w15) (x71.add 0) fun x73 =>
                  ldI .i64 (World.drew w15) (x71.add 1) fun x74 =>
                  ldI .i64 (World.drew w15) (x71.add 2) fun x75 =>
                  ldI .i64 (World.drew w15) (x71.add 3) fun x76 =>
                  k72 (x73, x74, x75, x76, ()) (World.drew w15)) (0, 0, 0, 0, ()) (World.drew w15) fun x77 _ =>
                gd (α := (Int × Int × Int × Int × Unit)) (decide (v46 < (v22n : Int))) (fun k78 =>
                  ldI .i64 (World.drew w15) ((⟨b38, 0, none⟩ : Addr).add 0) fun x79 =>
                  ldI .i64 (World.drew w15) ((⟨b38, 0, none⟩ : Addr).add 1) fun x80 =>
                  ldI .i64 (World.drew w15) ((⟨b38, 0, none⟩ : Addr).add 2) fun x81 =>
                  ldI .i64 (World.drew w15) ((⟨b38, 0, none⟩ : Addr).add 3) fun x82 =>
                  k78 (x79, x80, x81, x82, ()) (World.drew w15)) (0, 0, 0, 0, ()) (World.drew w15) fun x83 _ =>
                gd (α := Bool) (decide (v46 < (v22n : Int))) (fun k84 =>
                  eqV Try.prog .eql 30 (.agg #[.int .i64 x77.1, .int .i64 x77.2.1, .int .i64 x77.2.2.1, .int .i64 x77.2.2.2.1]) (.agg #[.int .i64 x83.1, .int .i64 x83.2.1, .int .i64 x83.2.2.1, .int .i64 x83.2.2.2.1]) fun q85 =>
                  k84 q85 (World.drew w15)) false (World.drew w15) fun x86 _ =>
                pif (cond (decide (v46 < (v22n : Int))) x86 false) (
                  k28 ((v22, v22n, v22c), ()) (World.drew w15)) (
                  lp (σ := (Option Addr × Nat × Nat) × Int × Unit) (fun s92 w16 k91 => match s92 with
                    | ((v89, v89n, v89c), v90, _) =>
                    pif (decide (v90 < v46)) (
                      ixA v22 v22n v90 4 fun p95 =>
                      ldI .i64 w16 (p95.add 0) fun x96 =>
                      ldI .i64 w16 (p95.add 1) fun x97 =>
                      ldI .i64 w16 (p95.add 2) fun x98 =>
                      ldI .i64 w16 (p95.add 3) fun x99 =>
                      alc w16 [.int .i64 x96, .int .i64 x97, .int .i64 x98, .int .i64 x99] 30 fun b100 w17 =>
                      ∃ (x101 : Option Addr) (x101n x101c : Nat), ∃ w18 : World, (Builtin.append_ #[22, 22] 22 #[.slice v89 v89n v89c, .slice (some (⟨b100, 0, none⟩ : Addr)) 1 1]).run Try.prog w17 = .ok (.slice x101 x101n x101c) w18 ∧
                      k91 ((x101, x101n, x101c), (IntKind.wrap .i64 (v90 + 1)), ()) w18) (
                      ldI .i64 w16 ((⟨b38, 0, none⟩ : Addr).add 0) fun x104 =>
                      ldI .i64 w16 ((⟨b38, 0, none⟩ : Addr).add 1) fun x105 =>
                      ldI .i64 w16 ((⟨b38, 0, none⟩ : Addr).add 2) fun x106 =>
                      ldI .i64 w16 ((⟨b38, 0, none⟩ : Addr).add 3) fun x107 =>
                      alc w16 [.int .i64 x104, .int .i64 x105, .int .i64 x106, .int .i64 x107] 30 fun b108 w19 =>
                      ∃ (x109 : Option Addr) (x109n x109c : Nat), ∃ w20 : World, (Builtin.append_ #[22, 22] 22 #[.slice v89 v89n v89c, .slice (some (⟨b108, 0, none⟩ : Addr)) 1 1]).run Try.prog w19 = .ok (.slice x109 x109n x109c) w20 ∧
                      lp (σ := (Option Addr × Nat × Nat) × Int × Unit) (fun s114 w21 k113 => match s114 with
                        | ((v111, v111n, v111c), v112, _) =>
                        pif (decide (v112 < (v22n : Int))) (
                          ixA v22 v22n v112 4 fun p117 =>
                          ldI .i64 w21 (p117.add 0) fun x118 =>
                          ldI .i64 w21 (p117.add 1) fun x119 =>
                          ldI .i64 w21 (p117.add 2) fun x120 =>
                          ldI .i64 w21 (p117.add 3) fun x121 =>
                          alc w21 [.int .i64 x118, .int .i64 x119, .int .i64 x120, .int .i64 x121] 30 fun b122 w22 =>
                          ∃ (x123 : Option Addr) (x123n x123c : Nat), ∃ w23 : World, (Builtin.append_ #[22, 22] 22 #[.slice v111 v111n v111c, .slice (some (⟨b122, 0, none⟩ : Addr)) 1 1]).run Try.prog w22 = .ok (.slice x123 x123n x123c) w23 ∧
                          k113 ((x123, x123n, x123c), (IntKind.wrap .i64 (v112 + 1)), ()) w23) (
                          k28 ((v111, v111n, v111c), ()) w21)) ((x109, x109n, x109c), v46, ()) w20)) ((none, 0, 0), 0, ()) (World.drew w15)))) (0, ()) w12) fun s29 w7 => match s29 with
          | ((v27, v27n, v27c), _) =>
          k24 ((v27, v27n, v27c), (IntKind.wrap .i64 (v23 + 1)), ()) w7) (
          R (.tuple #[.slice v22 v22n v22c, .int .i64 0]) w6)) ((none, 0, 0), 0, ()) w5))
def An6 : An := .seq (.leaf) (.seq (.seq (.leaf) (.cond (.seq (.leaf) (.leaf)) (.leaf))) (.seq (.seq (.leaf) (.cond (.seq (.leaf) (.leaf)) (.leaf))) (.seq (.leaf) (.seq (.seq (.leaf) (.blk (.loop [(6, .one (.slc)), (7, .one (.int .i64))] (.seq (.seq (.leaf) (.cond (.leaf) (.leaf))) (.seq (.join [(6, .one (.slc))] (.blk (.seq (.draw [0, 1, 0, 0, 12, 28, 63, 127, 0, 511]) (.seq (.leaf) (.seq (.blk (.loop [(9, .one (.int .i64))] (.seq (.seq (.draw [0, 0, 2, 7, 15, 31, 31, 127, 255, 31, 1023, 2047]) (.cond (.leaf) (.leaf))) (.blk (.leaf))))) (.seq (.seq (.draw [0, 0, 2, 7, 15, 31, 31, 127, 255, 31, 1023, 2047]) (.cond (.leaf) (.leaf))) (.seq (.leaf) (.seq (.seq (.leaf) (.blk (.loop [(10, .one (.slc)), (11, .one (.int .i64))] (.seq (.seq (.leaf) (.cond (.leaf) (.leaf))) (.seq (.blk (.leaf)) (.leaf)))))) (.seq (.leaf) (.seq (.seq (.leaf) (.blk (.loop [(10, .one (.slc)), (12, .one (.int .i64))] (.seq (.seq (.leaf) (.cond (.leaf) (.leaf))) (.seq (.blk (.leaf)) (.leaf)))))) (.leaf))))))))))) (.leaf)))))) (.seq (.leaf) (.leaf))))))
theorem V6_eq (a0_0 : Int) (a0_1 : Int) (a0_2 : Option Addr) (a0_2n : Nat) (a0_2c : Nat) (a1 : Option Addr) (a1n : Nat) (a1c : Nat) (w : World) (R : Value → World → Prop) : evF Try.prog Try.f6 An6 [.agg #[.int .i64 a0_0, .int .i64 a0_1, .slice a0_2 a0_2n a0_2c], .slice a1 a1n a1c] w R = V6 a0_0 a0_1 a0_2 a0_2n a0_2c a1 a1n a1c w R := by kernel_rfl
theorem V6_calls (a0_0 : Int) (a0_1 : Int) (a0_2 : Option Addr) (a0_2n : Nat) (a0_2c : Nat) (a1 : Option Addr) (a1n : Nat) (a1c : Nat) (w : World) (R : Value → World → Prop) (h : V6 a0_0 a0_1 a0_2 a0_2n a0_2c a1 a1n a1c w R) : Calls Try.prog 6 #[.agg #[.int .i64 a0_0, .int .i64 a0_1, .slice a0_2 a0_2n a0_2c], .slice a1 a1n a1c] w fun e w' => ∃ v, e = .returned v ∧ R v w' :=
  calls_of_ev (args := [.agg #[.int .i64 a0_0, .int .i64 a0_1, .slice a0_2 a0_2n a0_2c], .slice a1 a1n a1c]) Try.func6 (Nat.le_of_ble_eq_true (by kernel_rfl)) (by rw [V6_eq]; exact h)
theorem ok6 : fnOk Try.prog 6 = true := by kernel_rfl

/-! depot/depotref00.SameFaults -/
def V7 (a0 : Option Addr) (a0n : Nat) (a0c : Nat) (a1 : Option Addr) (a1n : Nat) (a1c : Nat) (w : World) (R : Value → World → Prop) : Prop :=
  pif ((a0n : Int) != (a1n : Int)) (
    R (.bool false) w) (
    lp (σ := Int × Unit) (fun s7 w1 k6 => match s7 with
      | (v5, _) =>
      pif (decide (v5 < (a0n : Int))) (
        ixA a0 a0n v5 4 fun p9 =>
        ldI .i64 (World.drew w1) (p9.add 0) fun x10 =>
        ldI .i64 (World.drew w1) (p9.add 1) fun x11 =>
        ldI .i64 (World.drew w1) (p9.add 2) fun x12 =>
        ldI .i64 (World.drew w1) (p9.add 3) fun x13 =>
        ixA a1 a1n v5 4 fun p14 =>
        ldI .i64 (World.drew w1) (p14.add 0) fun x15 =>
        ldI .i64 (World.drew w1) (p14.add 1) fun x16 =>
        ldI .i64 (World.drew w1) (p14.add 2) fun x17 =>
        ldI .i64 (World.drew w1) (p14.add 3) fun x18 =>
        eqV Try.prog .neq 30 (.agg #[.int .i64 x10, .int .i64 x11, .int .i64 x12, .int .i64 x13]) (.agg #[.int .i64 x15, .int .i64 x16, .int .i64 x17, .int .i64 x18]) fun q19 =>
        pif q19 (
          R (.bool false) (World.drew w1)) (
          k6 ((IntKind.wrap .i64 (v5 + 1)), ()) (World.drew w1))) (
        R (.bool true) w1)) (0, ()) w)
def An7 : An := .seq (.leaf) (.seq (.seq (.leaf) (.cond (.seq (.leaf) (.leaf)) (.leaf))) (.seq (.seq (.leaf) (.blk (.loop [(5, .one (.int .i64))] (.seq (.seq (.leaf) (.cond (.leaf) (.leaf))) (.seq (.blk (.seq (.draw [0, 0, 3, 7, 0, 0, 48, 112, 255]) (.cond (.seq (.leaf) (.leaf)) (.leaf)))) (.leaf)))))) (.seq (.leaf) (.leaf))))
theorem V7_eq (a0 : Option Addr) (a0n : Nat) (a0c : Nat) (a1 : Option Addr) (a1n : Nat) (a1c : Nat) (w : World) (R : Value → World → Prop) : evF Try.prog Try.f7 An7 [.slice a0 a0n a0c, .slice a1 a1n a1c] w R = V7 a0 a0n a0c a1 a1n a1c w R := by kernel_rfl
theorem V7_calls (a0 : Option Addr) (a0n : Nat) (a0c : Nat) (a1 : Option Addr) (a1n : Nat) (a1c : Nat) (w : World) (R : Value → World → Prop) (h : V7 a0 a0n a0c a1 a1n a1c w R) : Calls Try.prog 7 #[.slice a0 a0n a0c, .slice a1 a1n a1c] w fun e w' => ∃ v, e = .returned v ∧ R v w' :=
  calls_of_ev (args := [.slice a0 a0n a0c, .slice a1 a1n a1c]) Try.func7 (Nat.le_of_ble_eq_true (by kernel_rfl)) (by rw [V7_eq]; exact h)
theorem ok7 : fnOk Try.prog 7 = true := by kernel_rfl

/-! depot/depotlaw29.below -/
def V8 (a0_0 : Int) (a0_1 : Int) (a0_2 : Int) (a0_3 : Int) (a1_0 : Int) (a1_1 : Int) (a1_2 : Int) (a1_3 : Int) (w : World) (R : Value → World → Prop) : Prop :=
  alc w [.int .i64 a0_0, .int .i64 a0_1, .int .i64 a0_2, .int .i64 a0_3] 30 fun b2 w1 =>
  alc w1 [.int .i64 a1_0, .int .i64 a1_1, .int .i64 a1_2, .int .i64 a1_3] 30 fun b3 w2 =>
  ldI .i64 (World.drew w2) ((⟨b2, 0, none⟩ : Addr).add 0) fun x4 =>
  ldI .i64 (World.drew w2) ((⟨b2, 0, none⟩ : Addr).add 1) fun x5 =>
  ldI .i64 (World.drew w2) ((⟨b2, 0, none⟩ : Addr).add 2) fun x6 =>
  ldI .i64 (World.drew w2) ((⟨b2, 0, none⟩ : Addr).add 3) fun x7 =>
  ldI .i64 (World.drew w2) ((⟨b3, 0, none⟩ : Addr).add 0) fun x8 =>
  ldI .i64 (World.drew w2) ((⟨b3, 0, none⟩ : Addr).add 1) fun x9 =>
  ldI .i64 (World.drew w2) ((⟨b3, 0, none⟩ : Addr).add 2) fun x10 =>
  ldI .i64 (World.drew w2) ((⟨b3, 0, none⟩ : Addr).add 3) fun x11 =>
  (
    alc (World.drew w2) [.int .i64 0, .int .i64 0, .int .i64 0, .int .i64 0] 39 fun b12 w3 =>
    (
      ldI .i64 w3 ((⟨b3, 0, none⟩ : Addr).add 3) fun x13 =>
      ((.int .i64 x13 : Value) = .int .i64 x11)) ∧
    (
      ldI .i64 w3 ((⟨b3, 0, none⟩ : Addr).add 2) fun x14 =>
      ((.int .i64 x14 : Value) = .int .i64 x10)) ∧
    (
      ldI .i64 w3 ((⟨b3, 0, none⟩ : Addr).add 1) fun x15 =>
      ((.int .i64 x15 : Value) = .int .i64 x9)) ∧
    (
      ldI .i64 w3 ((⟨b3, 0, none⟩ : Addr).add 0) fun x16 =>
      ((.int .i64 x16 : Value) = .int .i64 x8)) ∧
    (
      ldI .i64 w3 ((⟨b2, 0, none⟩ : Addr).add 3) fun x17 =>
      ((.int .i64 x17 : Value) = .int .i64 x7)) ∧
    (
      ldI .i64 w3 ((⟨b2, 0, none⟩ : Addr).add 2) fun x18 =>
      ((.int .i64 x18 : Value) = .int .i64 x6)) ∧
    (
      ldI .i64 w3 ((⟨b2, 0, none⟩ : Addr).add 1) fun x19 =>
      ((.int .i64 x19 : Value) = .int .i64 x5)) ∧
    (
      ldI .i64 w3 ((⟨b2, 0, none⟩ : Addr).add 0) fun x20 =>
      ((.int .i64 x20 : Value) = .int .i64 x4)) ∧
    alc w3 [.int .i64 0, .int .i64 0, .int .i64 0, .int .i64 0] 39 fun b21 w4 =>
    (
      ldI .i64 w4 ((⟨b3, 0, none⟩ : Addr).add 3) fun x22 =>
      ((.int .i64 x22 : Value) = .int .i64 x11)) ∧
    (
      ldI .i64 w4 ((⟨b3, 0, none⟩ : Addr).add 2) fun x23 =>
      ((.int .i64 x23 : Value) = .int .i64 x10)) ∧
    (
      ldI .i64 w4 ((⟨b3, 0, none⟩ : Addr).add 1) fun x24 =>
      ((.int .i64 x24 : Value) = .int .i64 x9)) ∧
    (
      ldI .i64 w4 ((⟨b3, 0, none⟩ : Addr).add 0) fun x25 =>
      ((.int .i64 x25 : Value) = .int .i64 x8)) ∧
    (
      ldI .i64 w4 ((⟨b2, 0, none⟩ : Addr).add 3) fun x26 =>
      ((.int .i64 x26 : Value) = .int .i64 x7)) ∧
    (
      ldI .i64 w4 ((⟨b2, 0, none⟩ : Addr).add 2) fun x27 =>
      ((.int .i64 x27 : Value) = .int .i64 x6)) ∧
    (
      ldI .i64 w4 ((⟨b2, 0, none⟩ : Addr).add 1) fun x28 =>
      ((.int .i64 x28 : Value) = .int .i64 x5)) ∧
    (
      ldI .i64 w4 ((⟨b2, 0, none⟩ : Addr).add 0) fun x29 =>
      ((.int .i64 x29 : Value) = .int .i64 x4)) ∧
    st w4 ((⟨b12, 0, none⟩ : Addr).add 0) (.int .i64 x4) fun w5 =>
    st w5 ((⟨b12, 0, none⟩ : Addr).add 1) (.int .i64 x5) fun w6 =>
    st w6 ((⟨b12, 0, none⟩ : Addr).add 2) (.int .i64 x6) fun w7 =>
    st w7 ((⟨b12, 0, none⟩ : Addr).add 3) (.int .i64 x7) fun w8 =>
    (
      ldI .i64 w8 ((⟨b3, 0, none⟩ : Addr).add 3) fun x30 =>
      ((.int .i64 x30 : Value) = .int .i64 x11)) ∧
    (
      ldI .i64 w8 ((⟨b3, 0, none⟩ : Addr).add 2) fun x31 =>
      ((.int .i64 x31 : Value) = .int .i64 x10)) ∧
    (
      ldI .i64 w8 ((⟨b3, 0, none⟩ : Addr).add 1) fun x32 =>
      ((.int .i64 x32 : Value) = .int .i64 x9)) ∧
    (
      ldI .i64 w8 ((⟨b3, 0, none⟩ : Addr).add 0) fun x33 =>
      ((.int .i64 x33 : Value) = .int .i64 x8)) ∧
    st w8 ((⟨b21, 0, none⟩ : Addr).add 0) (.int .i64 x8) fun w9 =>
    st w9 ((⟨b21, 0, none⟩ : Addr).add 1) (.int .i64 x9) fun w10 =>
    st w10 ((⟨b21, 0, none⟩ : Addr).add 2) (.int .i64 x10) fun w11 =>
    st w11 ((⟨b21, 0, none⟩ : Addr).add 3) (.int .i64 x11) fun w12 =>
    lp (σ := Int × Unit) (fun s37 w13 k36 => match s37 with
      | (v35, _) =>
      pif (decide (v35 < 4)) (
        ixA (some (⟨b12, 0, none⟩ : Addr)) 4 v35 1 fun p39 =>
        ldI .i64 (World.drew w13) p39 fun x40 =>
        ixA (some (⟨b21, 0, none⟩ : Addr)) 4 v35 1 fun p41 =>
        ldI .i64 (World.drew w13) p41 fun x42 =>
        pif (x40 != x42) (
          ixA (some (⟨b12, 0, none⟩ : Addr)) 4 v35 1 fun p43 =>
          ldI .i64 (World.drew (World.drew w13)) p43 fun x44 =>
          ixA (some (⟨b21, 0, none⟩ : Addr)) 4 v35 1 fun p45 =>
          ldI .i64 (World.drew (World.drew w13)) p45 fun x46 =>
          R (.bool (decide (x44 < x46))) (World.drew (World.drew w13))) (
          k36 ((IntKind.wrap .i64 (v35 + 1)), ()) (World.drew w13))) (
        R (.bool false) w13)) (0, ()) w12) ∧
  (
    alc (World.drew w2) [.int .i64 0, .int .i64 0, .int .i64 0, .int .i64 0] 39 fun b49 w14 =>
    (
      ldI .i64 w14 ((⟨b3, 0, none⟩ : Addr).add 3) fun x50 =>
      ((.int .i64 x50 : Value) = .int .i64 x11)) ∧
    (
      ldI .i64 w14 ((⟨b3, 0, none⟩ : Addr).add 2) fun x51 =>
      ((.int .i64 x51 : Value) = .int .i64 x10)) ∧
    (
      ldI .i64 w14 ((⟨b3, 0, none⟩ : Addr).add 1) fun x52 =>
      ((.int .i64 x52 : Value) = .int .i64 x9)) ∧
    (
      ldI .i64 w14 ((⟨b3, 0, none⟩ : Addr).add 0) fun x53 =>
      ((.int .i64 x53 : Value) = .int .i64 x8)) ∧
    (
      ldI .i64 w14 ((⟨b2, 0, none⟩ : Addr).add 3) fun x54 =>
      ((.int .i64 x54 : Value) = .int .i64 x7)) ∧
    (
      ldI .i64 w14 ((⟨b2, 0, none⟩ : Addr).add 2) fun x55 =>
      ((.int .i64 x55 : Value) = .int .i64 x6)) ∧
    (
      ldI .i64 w14 ((⟨b2, 0, none⟩ : Addr).add 1) fun x56 =>
      ((.int .i64 x56 : Value) = .int .i64 x5)) ∧
    (
      ldI .i64 w14 ((⟨b2, 0, none⟩ : Addr).add 0) fun x57 =>
      ((.int .i64 x57 : Value) = .int .i64 x4)) ∧
    alc w14 [.int .i64 0, .int .i64 0, .int .i64 0, .int .i64 0] 39 fun b58 w15 =>
    (
      ldI .i64 w15 ((⟨b3, 0, none⟩ : Addr).add 3) fun x59 =>
      ((.int .i64 x59 : Value) = .int .i64 x11)) ∧
    (
      ldI .i64 w15 ((⟨b3, 0, none⟩ : Addr).add 2) fun x60 =>
      ((.int .i64 x60 : Value) = .int .i64 x10)) ∧
    (
      ldI .i64 w15 ((⟨b3, 0, none⟩ : Addr).add 1) fun x61 =>
      ((.int .i64 x61 : Value) = .int .i64 x9)) ∧
    (
      ldI .i64 w15 ((⟨b3, 0, none⟩ : Addr).add 0) fun x62 =>
      ((.int .i64 x62 : Value) = .int .i64 x8)) ∧
    (
      ldI .i64 w15 ((⟨b2, 0, none⟩ : Addr).add 3) fun x63 =>
      ((.int .i64 x63 : Value) = .int .i64 x7)) ∧
    (
      ldI .i64 w15 ((⟨b2, 0, none⟩ : Addr).add 2) fun x64 =>
      ((.int .i64 x64 : Value) = .int .i64 x6)) ∧
    (
      ldI .i64 w15 ((⟨b2, 0, none⟩ : Addr).add 1) fun x65 =>
      ((.int .i64 x65 : Value) = .int .i64 x5)) ∧
    (
      ldI .i64 w15 ((⟨b2, 0, none⟩ : Addr).add 0) fun x66 =>
      ((.int .i64 x66 : Value) = .int .i64 x4)) ∧
    st w15 ((⟨b58, 0, none⟩ : Addr).add 0) (.int .i64 x4) fun w16 =>
    st w16 ((⟨b58, 0, none⟩ : Addr).add 1) (.int .i64 x5) fun w17 =>
    st w17 ((⟨b58, 0, none⟩ : Addr).add 2) (.int .i64 x6) fun w18 =>
    st w18 ((⟨b58, 0, none⟩ : Addr).add 3) (.int .i64 x7) fun w19 =>
    (
      ldI .i64 w19 ((⟨b3, 0, none⟩ : Addr).add 3) fun x67 =>
      ((.int .i64 x67 : Value) = .int .i64 x11)) ∧
    (
      ldI .i64 w19 ((⟨b3, 0, none⟩ : Addr).add 2) fun x68 =>
      ((.int .i64 x68 : Value) = .int .i64 x10)) ∧
    (
      ldI .i64 w19 ((⟨b3, 0, none⟩ : Addr).add 1) fun x69 =>
      ((.int .i64 x69 : Value) = .int .i64 x9)) ∧
    (
      ldI .i64 w19 ((⟨b3, 0, none⟩ : Addr).add 0) fun x70 =>
      ((.int .i64 x70 : Value) = .int .i64 x8)) ∧
    st w19 ((⟨b49, 0, none⟩ : Addr).add 0) (.int .i64 x8) fun w20 =>
    st w20 ((⟨b49, 0, none⟩ : Addr).add 1) (.int .i64 x9) fun w21 =>
    st w21 ((⟨b49, 0, none⟩ : Addr).add 2) (.int .i64 x10) fun w22 =>
    st w22 ((⟨b49, 0, none⟩ : Addr).add 3) (.int .i64 x11) fun w23 =>
    lp (σ := Int × Unit) (fun s74 w24 k73 => match s74 with
      | (v72, _) =>
      pif (decide (v72 < 4)) (
        ixA (some (⟨b58, 0, none⟩ : Addr)) 4 v72 1 fun p76 =>
        ldI .i64 (World.drew w24) p76 fun x77 =>
        ixA (some (⟨b49, 0, none⟩ : Addr)) 4 v72 1 fun p78 =>
        ldI .i64 (World.drew w24) p78 fun x79 =>
        pif (x77 != x79) (
          ixA (some (⟨b58, 0, none⟩ : Addr)) 4 v72 1 fun p80 =>
          ldI .i64 (World.drew (World.drew w24)) p80 fun x81 =>
          ixA (some (⟨b49, 0, none⟩ : Addr)) 4 v72 1 fun p82 =>
          ldI .i64 (World.drew (World.drew w24)) p82 fun x83 =>
          R (.bool (decide (x81 < x83))) (World.drew (World.drew w24))) (
          k73 ((IntKind.wrap .i64 (v72 + 1)), ()) (World.drew w24))) (
        R (.bool false) w24)) (0, ()) w23)
def An8 : An := .seq (.leaf) (.seq (.draw [0, 1, 0, 4, 0, 16, 0, 64, 255, 0, 512, 0, 2048, 0, 8192, 0, 32768, 130560, 0, 0, 786943, 2097151]) (.seq (.seq (.leaf) (.blk (.loop [(7, .one (.int .i64))] (.seq (.seq (.leaf) (.cond (.leaf) (.leaf))) (.seq (.blk (.seq (.draw [0, 1, 3, 0, 8, 24, 63]) (.cond (.seq (.draw [0, 1, 3, 0, 8, 24, 63, 127]) (.leaf)) (.leaf)))) (.leaf)))))) (.seq (.leaf) (.leaf))))
theorem V8_eq (a0_0 : Int) (a0_1 : Int) (a0_2 : Int) (a0_3 : Int) (a1_0 : Int) (a1_1 : Int) (a1_2 : Int) (a1_3 : Int) (w : World) (R : Value → World → Prop) : evF Try.prog Try.f8 An8 [.agg #[.int .i64 a0_0, .int .i64 a0_1, .int .i64 a0_2, .int .i64 a0_3], .agg #[.int .i64 a1_0, .int .i64 a1_1, .int .i64 a1_2, .int .i64 a1_3]] w R = V8 a0_0 a0_1 a0_2 a0_3 a1_0 a1_1 a1_2 a1_3 w R := by kernel_rfl
theorem V8_calls (a0_0 : Int) (a0_1 : Int) (a0_2 : Int) (a0_3 : Int) (a1_0 : Int) (a1_1 : Int) (a1_2 : Int) (a1_3 : Int) (w : World) (R : Value → World → Prop) (h : V8 a0_0 a0_1 a0_2 a0_3 a1_0 a1_1 a1_2 a1_3 w R) : Calls Try.prog 8 #[.agg #[.int .i64 a0_0, .int .i64 a0_1, .int .i64 a0_2, .int .i64 a0_3], .agg #[.int .i64 a1_0, .int .i64 a1_1, .int .i64 a1_2, .int .i64 a1_3]] w fun e w' => ∃ v, e = .returned v ∧ R v w' :=
  calls_of_ev (args := [.agg #[.int .i64 a0_0, .int .i64 a0_1, .int .i64 a0_2, .int .i64 a0_3], .agg #[.int .i64 a1_0, .int .i64 a1_1, .int .i64 a1_2, .int .i64 a1_3]]) Try.func8 (Nat.le_of_ble_eq_true (by kernel_rfl)) (by rw [V8_eq]; exact h)
theorem ok8 : fnOk Try.prog 8 = true := by kernel_rfl

/-! depot/depotlaw29.among -/
def V9 (a0 : Option Addr) (a0n : Nat) (a0c : Nat) (a1_0 : Int) (a1_1 : Int) (a1_2 : Int) (a1_3 : Int) (w : World) (R : Value → World → Prop) : Prop :=
  alc w [.int .i64 a1_0, .int .i64 a1_1, .int .i64 a1_2, .int .i64 a1_3] 30 fun b2 w1 =>
  lp (σ := Int × Unit) (fun s6 w2 k5 => match s6 with
    | (v4, _) =>
    pif (decide (v4 < (a0n : Int))) (
      ixA a0 a0n v4 4 fun p8 =>
      ldI .i64 (World.drew w2) (p8.add 0) fun x9 =>
      ldI .i64 (World.drew w2) (p8.add 1) fun x10 =>
      ldI .i64 (World.drew w2) (p8.add 2) fun x11 =>
      ldI .i64 (World.drew w2) (p8.add 3) fun x12 =>
      ldI .i64 (World.drew w2) ((⟨b2, 0, none⟩ : Addr).add 0) fun x13 =>
      ldI .i64 (World.drew w2) ((⟨b2, 0, none⟩ : Addr).add 1) fun x14 =>
      ldI .i64 (World.drew w2) ((⟨b2, 0, none⟩ : Addr).add 2) fun x15 =>
      ldI .i64 (World.drew w2) ((⟨b2, 0, none⟩ : Addr).add 3) fun x16 =>
      eqV Try.prog .eql 30 (.agg #[.int .i64 x9, .int .i64 x10, .int .i64 x11, .int .i64 x12]) (.agg #[.int .i64 x13, .int .i64 x14, .int .i64 x15, .int .i64 x16]) fun q17 =>
      pif q17 (
        R (.bool true) (World.drew w2)) (
        k5 ((IntKind.wrap .i64 (v4 + 1)), ()) (World.drew w2))) (
      R (.bool false) w2)) (0, ()) w1
def An9 : An := .seq (.leaf) (.seq (.seq (.leaf) (.blk (.loop [(5, .one (.int .i64))] (.seq (.seq (.leaf) (.cond (.leaf) (.leaf))) (.seq (.blk (.seq (.draw [0, 0, 3, 7, 0, 31]) (.cond (.seq (.leaf) (.leaf)) (.leaf)))) (.leaf)))))) (.seq (.leaf) (.leaf)))
theorem V9_eq (a0 : Option Addr) (a0n : Nat) (a0c : Nat) (a1_0 : Int) (a1_1 : Int) (a1_2 : Int) (a1_3 : Int) (w : World) (R : Value → World → Prop) : evF Try.prog Try.f9 An9 [.slice a0 a0n a0c, .agg #[.int .i64 a1_0, .int .i64 a1_1, .int .i64 a1_2, .int .i64 a1_3]] w R = V9 a0 a0n a0c a1_0 a1_1 a1_2 a1_3 w R := by kernel_rfl
theorem V9_calls (a0 : Option Addr) (a0n : Nat) (a0c : Nat) (a1_0 : Int) (a1_1 : Int) (a1_2 : Int) (a1_3 : Int) (w : World) (R : Value → World → Prop) (h : V9 a0 a0n a0c a1_0 a1_1 a1_2 a1_3 w R) : Calls Try.prog 9 #[.slice a0 a0n a0c, .agg #[.int .i64 a1_0, .int .i64 a1_1, .int .i64 a1_2, .int .i64 a1_3]] w fun e w' => ∃ v, e = .returned v ∧ R v w' :=
  calls_of_ev (args := [.slice a0 a0n a0c, .agg #[.int .i64 a1_0, .int .i64 a1_1, .int .i64 a1_2, .int .i64 a1_3]]) Try.func9 (Nat.le_of_ble_eq_true (by kernel_rfl)) (by rw [V9_eq]; exact h)
theorem ok9 : fnOk Try.prog 9 = true := by kernel_rfl

/-! depot/explain.rises -/
def V10 (a0 : Option Addr) (a0n : Nat) (a0c : Nat) (a1 : Int) (w : World) (R : Value → World → Prop) : Prop :=
  lp (σ := Int × Unit) (fun s5 w1 k4 => match s5 with
    | (v3, _) =>
    pif (decide (v3 < (a0n : Int))) (
      ixA a0 a0n v3 1 fun p8 =>
      ldI .i64 w1 p8 fun x9 =>
      gd (α := Addr) ((!(cond (decide (x9 < 0)) true (decide (x9 ≥ a1)))) && (decide (v3 > 0))) (fun k11 =>
        ixA a0 a0n (IntKind.wrap .i64 (v3 - 1)) 1 fun p12 =>
        k11 p12 w1) ⟨0, 0, none⟩ w1 fun x13 w2 =>
      gd (α := Int) ((!(cond (decide (x9 < 0)) true (decide (x9 ≥ a1)))) && (decide (v3 > 0))) (fun k14 =>
        ldI .i64 w2 x13 fun x15 =>
        k14 x15 w2) 0 w2 fun x16 w3 =>
      pif (cond (cond (decide (x9 < 0)) true (decide (x9 ≥ a1))) true (cond (decide (v3 > 0)) (decide (x9 ≤ x16)) false)) (
        R (.bool false) w3) (
        k4 ((IntKind.wrap .i64 (v3 + 1)), ()) w3)) (
      R (.bool true) w1)) (0, ()) w
def An10 : An := .seq (.leaf) (.seq (.seq (.leaf) (.blk (.loop [(9, .one (.int .i64))] (.seq (.leaf) (.seq (.cond (.leaf) (.leaf)) (.seq (.blk (.seq (.leaf) (.seq (.leaf) (.cond (.seq (.leaf) (.leaf)) (.leaf))))) (.leaf))))))) (.seq (.leaf) (.leaf)))
theorem V10_eq (a0 : Option Addr) (a0n : Nat) (a0c : Nat) (a1 : Int) (w : World) (R : Value → World → Prop) : evF Try.prog Try.f10 An10 [.slice a0 a0n a0c, .int .i64 a1] w R = V10 a0 a0n a0c a1 w R := by kernel_rfl
theorem V10_calls (a0 : Option Addr) (a0n : Nat) (a0c : Nat) (a1 : Int) (w : World) (R : Value → World → Prop) (h : V10 a0 a0n a0c a1 w R) : Calls Try.prog 10 #[.slice a0 a0n a0c, .int .i64 a1] w fun e w' => ∃ v, e = .returned v ∧ R v w' :=
  calls_of_ev (args := [.slice a0 a0n a0c, .int .i64 a1]) Try.func10 (Nat.le_of_ble_eq_true (by kernel_rfl)) (by rw [V10_eq]; exact h)
theorem ok10 : fnOk Try.prog 10 = true := by kernel_rfl

/-! depot/explain.order -/
def V12 (a0_0 : Int) (a0_1 : Int) (a0_2 : Int) (a0_3 : Int) (a1_0 : Int) (a1_1 : Int) (a1_2 : Int) (a1_3 : Int) (w : World) (R : Value → World → Prop) : Prop :=
  alc w [.int .i64 a0_0, .int .i64 a0_1, .int .i64 a0_2, .int .i64 a0_3] 30 fun b2 w1 =>
  alc w1 [.int .i64 a1_0, .int .i64 a1_1, .int .i64 a1_2, .int .i64 a1_3] 30 fun b3 w2 =>
  ldI .i64 (World.drew w2) ((⟨b2, 0, none⟩ : Addr).add 0) fun x4 =>
  ldI .i64 (World.drew w2) ((⟨b3, 0, none⟩ : Addr).add 0) fun x5 =>
  ldI .i64 (World.drew w2) ((⟨b2, 0, none⟩ : Addr).add 1) fun x6 =>
  ldI .i64 (World.drew w2) ((⟨b3, 0, none⟩ : Addr).add 1) fun x7 =>
  ldI .i64 (World.drew w2) ((⟨b2, 0, none⟩ : Addr).add 2) fun x8 =>
  ldI .i64 (World.drew w2) ((⟨b3, 0, none⟩ : Addr).add 2) fun x9 =>
  ldI .i64 (World.drew w2) ((⟨b2, 0, none⟩ : Addr).add 3) fun x10 =>
  ldI .i64 (World.drew w2) ((⟨b3, 0, none⟩ : Addr).add 3) fun x11 =>
  cl Try.prog 18 [.int .i64 x4, .int .i64 x5] (World.drew w2) fun e13 w3 => ∃ x12 : Int, e13 = Ending.returned (.int .i64 x12) ∧
  (
    ldI .i64 w3 ((⟨b3, 0, none⟩ : Addr).add 3) fun x14 =>
    ((.int .i64 x14 : Value) = .int .i64 x11)) ∧
  (
    ldI .i64 w3 ((⟨b2, 0, none⟩ : Addr).add 3) fun x15 =>
    ((.int .i64 x15 : Value) = .int .i64 x10)) ∧
  (
    ldI .i64 w3 ((⟨b3, 0, none⟩ : Addr).add 2) fun x16 =>
    ((.int .i64 x16 : Value) = .int .i64 x9)) ∧
  (
    ldI .i64 w3 ((⟨b2, 0, none⟩ : Addr).add 2) fun x17 =>
    ((.int .i64 x17 : Value) = .int .i64 x8)) ∧
  (
    ldI .i64 w3 ((⟨b3, 0, none⟩ : Addr).add 1) fun x18 =>
    ((.int .i64 x18 : Value) = .int .i64 x7)) ∧
  (
    ldI .i64 w3 ((⟨b2, 0, none⟩ : Addr).add 1) fun x19 =>
    ((.int .i64 x19 : Value) = .int .i64 x6)) ∧
  cl Try.prog 18 [.int .i64 x6, .int .i64 x7] w3 fun e21 w4 => ∃ x20 : Int, e21 = Ending.returned (.int .i64 x20) ∧
  (
    ldI .i64 w4 ((⟨b3, 0, none⟩ : Addr).add 3) fun x22 =>
    ((.int .i64 x22 : Value) = .int .i64 x11)) ∧
  (
    ldI .i64 w4 ((⟨b2, 0, none⟩ : Addr).add 3) fun x23 =>
    ((.int .i64 x23 : Value) = .int .i64 x10)) ∧
  (
    ldI .i64 w4 ((⟨b3, 0, none⟩ : Addr).add 2) fun x24 =>
    ((.int .i64 x24 : Value) = .int .i64 x9)) ∧
  (
    ldI .i64 w4 ((⟨b2, 0, none⟩ : Addr).add 2) fun x25 =>
    ((.int .i64 x25 : Value) = .int .i64 x8)) ∧
  cl Try.prog 18 [.int .i64 x8, .int .i64 x9] w4 fun e27 w5 => ∃ x26 : Int, e27 = Ending.returned (.int .i64 x26) ∧
  (
    ldI .i64 w5 ((⟨b3, 0, none⟩ : Addr).add 3) fun x28 =>
    ((.int .i64 x28 : Value) = .int .i64 x11)) ∧
  (
    ldI .i64 w5 ((⟨b2, 0, none⟩ : Addr).add 3) fun x29 =>
    ((.int .i64 x29 : Value) = .int .i64 x10)) ∧
  cl Try.prog 18 [.int .i64 x10, .int .i64 x11] w5 fun e31 w6 => ∃ x30 : Int, e31 = Ending.returned (.int .i64 x30) ∧
  alc w6 [.int .i64 x12, .int .i64 x20, .int .i64 x26, .int .i64 x30] 3 fun b32 w7 =>
  cl Try.prog 17 [.slice (some (⟨b32, 0, none⟩ : Addr)) 4 4] w7 fun e34 w8 => ∃ x33 : Int, e34 = Ending.returned (.int .i64 x33) ∧
  R (.int .i64 x33) w8
def An12 : An := .seq (.leaf) (.seq (.draw [0, 1, 0, 4, 15, 0, 32, 0, 128, 511, 0, 1024, 0, 4096, 16383, 0, 32768, 0, 131072, 524287, 1048575, 2097151, 4194303]) (.leaf))
theorem V12_eq (a0_0 : Int) (a0_1 : Int) (a0_2 : Int) (a0_3 : Int) (a1_0 : Int) (a1_1 : Int) (a1_2 : Int) (a1_3 : Int) (w : World) (R : Value → World → Prop) : evF Try.prog Try.f12 An12 [.agg #[.int .i64 a0_0, .int .i64 a0_1, .int .i64 a0_2, .int .i64 a0_3], .agg #[.int .i64 a1_0, .int .i64 a1_1, .int .i64 a1_2, .int .i64 a1_3]] w R = V12 a0_0 a0_1 a0_2 a0_3 a1_0 a1_1 a1_2 a1_3 w R := by kernel_rfl
theorem V12_calls (a0_0 : Int) (a0_1 : Int) (a0_2 : Int) (a0_3 : Int) (a1_0 : Int) (a1_1 : Int) (a1_2 : Int) (a1_3 : Int) (w : World) (R : Value → World → Prop) (h : V12 a0_0 a0_1 a0_2 a0_3 a1_0 a1_1 a1_2 a1_3 w R) : Calls Try.prog 12 #[.agg #[.int .i64 a0_0, .int .i64 a0_1, .int .i64 a0_2, .int .i64 a0_3], .agg #[.int .i64 a1_0, .int .i64 a1_1, .int .i64 a1_2, .int .i64 a1_3]] w fun e w' => ∃ v, e = .returned v ∧ R v w' :=
  calls_of_ev (args := [.agg #[.int .i64 a0_0, .int .i64 a0_1, .int .i64 a0_2, .int .i64 a0_3], .agg #[.int .i64 a1_0, .int .i64 a1_1, .int .i64 a1_2, .int .i64 a1_3]]) Try.func12 (Nat.le_of_ble_eq_true (by kernel_rfl)) (by rw [V12_eq]; exact h)
theorem ok12 : fnOk Try.prog 12 = true := by kernel_rfl

/-! depot/depotref00.Rising -/
def V13 (a0 : Option Addr) (a0n : Nat) (a0c : Nat) (a1 : Int) (w : World) (R : Value → World → Prop) : Prop :=
  lp (σ := Int × Unit) (fun s5 w1 k4 => match s5 with
    | (v3, _) =>
    pif (decide (v3 < (a0n : Int))) (
      ixA a0 a0n v3 1 fun p7 =>
      ldI .i64 (World.drew w1) p7 fun x8 =>
      gd (α := Addr) (!(decide (x8 < 0))) (fun k9 =>
        ixA a0 a0n v3 1 fun p10 =>
        k9 p10 (World.drew w1)) ⟨0, 0, none⟩ (World.drew w1) fun x11 _ =>
      gd (α := Int) (!(decide (x8 < 0))) (fun k12 =>
        ldI .i64 (World.drew w1) x11 fun x13 =>
        k12 x13 (World.drew w1)) 0 (World.drew w1) fun x14 _ =>
      gd (α := Addr) ((!(cond (decide (x8 < 0)) true (decide (x14 ≥ a1)))) && (decide (v3 > 0))) (fun k15 =>
        ixA a0 a0n v3 1 fun p16 =>
        k15 p16 (World.drew w1)) ⟨0, 0, none⟩ (World.drew w1) fun x17 _ =>
      gd (α := Int) ((!(cond (decide (x8 < 0)) true (decide (x14 ≥ a1)))) && (decide (v3 > 0))) (fun k18 =>
        ldI .i64 (World.drew w1) x17 fun x19 =>
        k18 x19 (World.drew w1)) 0 (World.drew w1) fun x20 _ =>
      gd (α := Addr) ((!(cond (decide (x8 < 0)) true (decide (x14 ≥ a1)))) && (decide (v3 > 0))) (fun k21 =>
        ixA a0 a0n (IntKind.wrap .i64 (v3 - 1)) 1 fun p22 =>
        k21 p22 (World.drew w1)) ⟨0, 0, none⟩ (World.drew w1) fun x23 _ =>
      gd (α := Int) ((!(cond (decide (x8 < 0)) true (decide (x14 ≥ a1)))) && (decide (v3 > 0))) (fun k24 =>
        ldI .i64 (World.drew w1) x23 fun x25 =>
        k24 x25 (World.drew w1)) 0 (World.drew w1) fun x26 _ =>
      pif (cond (cond (decide (x8 < 0)) true (decide (x14 ≥ a1))) true (cond (decide (v3 > 0)) (decide (x20 ≤ x26)) false)) (
        R (.bool false) (World.drew w1)) (
        k4 ((IntKind.wrap .i64 (v3 + 1)), ()) (World.drew w1))) (
      R (.bool true) w1)) (0, ()) w
def An13 : An := .seq (.leaf) (.seq (.seq (.leaf) (.blk (.loop [(5, .one (.int .i64))] (.seq (.seq (.leaf) (.cond (.leaf) (.leaf))) (.seq (.blk (.seq (.draw [0, 0, 3, 7, 15, 31, 63, 63, 255, 511, 63, 2047, 4095, 8191, 16383, 32767, 65535, 131071, 131071, 524287, 1048575, 131071, 131071, 4325375, 14811135, 31588351, 67108863, 134217727, 268435455]) (.cond (.seq (.leaf) (.leaf)) (.leaf)))) (.leaf)))))) (.seq (.leaf) (.leaf)))
theorem V13_eq (a0 : Option Addr) (a0n : Nat) (a0c : Nat) (a1 : Int) (w : World) (R : Value → World → Prop) : evF Try.prog Try.f13 An13 [.slice a0 a0n a0c, .int .i64 a1] w R = V13 a0 a0n a0c a1 w R := by kernel_rfl
theorem V13_calls (a0 : Option Addr) (a0n : Nat) (a0c : Nat) (a1 : Int) (w : World) (R : Value → World → Prop) (h : V13 a0 a0n a0c a1 w R) : Calls Try.prog 13 #[.slice a0 a0n a0c, .int .i64 a1] w fun e w' => ∃ v, e = .returned v ∧ R v w' :=
  calls_of_ev (args := [.slice a0 a0n a0c, .int .i64 a1]) Try.func13 (Nat.le_of_ble_eq_true (by kernel_rfl)) (by rw [V13_eq]; exact h)
theorem ok13 : fnOk Try.prog 13 = true := by kernel_rfl

/-! depot/depotref29.ahead -/
def V14 (a0_0 : Int) (a0_1 : Int) (a0_2 : Int) (a0_3 : Int) (a1_0 : Int) (a1_1 : Int) (a1_2 : Int) (a1_3 : Int) (w : World) (R : Value → World → Prop) : Prop :=
  alc w [.int .i64 a0_0, .int .i64 a0_1, .int .i64 a0_2, .int .i64 a0_3] 30 fun b2 w1 =>
  alc w1 [.int .i64 a1_0, .int .i64 a1_1, .int .i64 a1_2, .int .i64 a1_3] 30 fun b3 w2 =>
  ldI .i64 w2 ((⟨b2, 0, none⟩ : Addr).add 0) fun x5 =>
  ldI .i64 w2 ((⟨b3, 0, none⟩ : Addr).add 0) fun x6 =>
  pif (x5 != x6) (
    ldI .i64 w2 ((⟨b2, 0, none⟩ : Addr).add 0) fun x8 =>
    ldI .i64 w2 ((⟨b3, 0, none⟩ : Addr).add 0) fun x9 =>
    R (.bool (decide (x8 < x9))) w2) (
    ldI .i64 w2 ((⟨b2, 0, none⟩ : Addr).add 1) fun x11 =>
    ldI .i64 w2 ((⟨b3, 0, none⟩ : Addr).add 1) fun x12 =>
    pif (x11 != x12) (
      ldI .i64 w2 ((⟨b2, 0, none⟩ : Addr).add 1) fun x14 =>
      ldI .i64 w2 ((⟨b3, 0, none⟩ : Addr).add 1) fun x15 =>
      R (.bool (decide (x14 < x15))) w2) (
      ldI .i64 w2 ((⟨b2, 0, none⟩ : Addr).add 2) fun x17 =>
      ldI .i64 w2 ((⟨b3, 0, none⟩ : Addr).add 2) fun x18 =>
      pif (x17 != x18) (
        ldI .i64 w2 ((⟨b2, 0, none⟩ : Addr).add 2) fun x20 =>
        ldI .i64 w2 ((⟨b3, 0, none⟩ : Addr).add 2) fun x21 =>
        R (.bool (decide (x20 < x21))) w2) (
        ldI .i64 w2 ((⟨b2, 0, none⟩ : Addr).add 3) fun x23 =>
        ldI .i64 w2 ((⟨b3, 0, none⟩ : Addr).add 3) fun x24 =>
        R (.bool (decide (x23 < x24))) w2)))
def An14 : An := .seq (.leaf) (.seq (.seq (.leaf) (.cond (.seq (.leaf) (.leaf)) (.leaf))) (.seq (.seq (.leaf) (.cond (.seq (.leaf) (.leaf)) (.leaf))) (.seq (.seq (.leaf) (.cond (.seq (.leaf) (.leaf)) (.leaf))) (.seq (.leaf) (.leaf)))))
theorem V14_eq (a0_0 : Int) (a0_1 : Int) (a0_2 : Int) (a0_3 : Int) (a1_0 : Int) (a1_1 : Int) (a1_2 : Int) (a1_3 : Int) (w : World) (R : Value → World → Prop) : evF Try.prog Try.f14 An14 [.agg #[.int .i64 a0_0, .int .i64 a0_1, .int .i64 a0_2, .int .i64 a0_3], .agg #[.int .i64 a1_0, .int .i64 a1_1, .int .i64 a1_2, .int .i64 a1_3]] w R = V14 a0_0 a0_1 a0_2 a0_3 a1_0 a1_1 a1_2 a1_3 w R := by kernel_rfl
theorem V14_calls (a0_0 : Int) (a0_1 : Int) (a0_2 : Int) (a0_3 : Int) (a1_0 : Int) (a1_1 : Int) (a1_2 : Int) (a1_3 : Int) (w : World) (R : Value → World → Prop) (h : V14 a0_0 a0_1 a0_2 a0_3 a1_0 a1_1 a1_2 a1_3 w R) : Calls Try.prog 14 #[.agg #[.int .i64 a0_0, .int .i64 a0_1, .int .i64 a0_2, .int .i64 a0_3], .agg #[.int .i64 a1_0, .int .i64 a1_1, .int .i64 a1_2, .int .i64 a1_3]] w fun e w' => ∃ v, e = .returned v ∧ R v w' :=
  calls_of_ev (args := [.agg #[.int .i64 a0_0, .int .i64 a0_1, .int .i64 a0_2, .int .i64 a0_3], .agg #[.int .i64 a1_0, .int .i64 a1_1, .int .i64 a1_2, .int .i64 a1_3]]) Try.func14 (Nat.le_of_ble_eq_true (by kernel_rfl)) (by rw [V14_eq]; exact h)
theorem ok14 : fnOk Try.prog 14 = true := by kernel_rfl

/-! cmp.Or[int] -/
def V17 (a0 : Option Addr) (a0n : Nat) (a0c : Nat) (w : World) (R : Value → World → Prop) : Prop :=
  lp (σ := Int × Unit) (fun s6 w1 k5 => match s6 with
    | (v4, _) =>
    pif (decide (v4 < (a0n : Int))) (
      ixA a0 a0n v4 1 fun p9 =>
      ldI .i64 w1 p9 fun x10 =>
      pif (x10 != 0) (
        R (.int .i64 x10) w1) (
        k5 ((IntKind.wrap .i64 (v4 + 1)), ()) w1)) (
      R (.int .i64 0) w1)) (0, ()) w
def An17 : An := .seq (.leaf) (.seq (.leaf) (.seq (.seq (.leaf) (.blk (.loop [(8, .one (.int .i64))] (.seq (.leaf) (.seq (.cond (.leaf) (.leaf)) (.seq (.blk (.seq (.leaf) (.seq (.leaf) (.cond (.seq (.leaf) (.leaf)) (.leaf))))) (.leaf))))))) (.seq (.leaf) (.leaf))))
theorem V17_eq (a0 : Option Addr) (a0n : Nat) (a0c : Nat) (w : World) (R : Value → World → Prop) : evF Try.prog Try.f17 An17 [.slice a0 a0n a0c] w R = V17 a0 a0n a0c w R := by kernel_rfl
theorem V17_calls (a0 : Option Addr) (a0n : Nat) (a0c : Nat) (w : World) (R : Value → World → Prop) (h : V17 a0 a0n a0c w R) : Calls Try.prog 17 #[.slice a0 a0n a0c] w fun e w' => ∃ v, e = .returned v ∧ R v w' :=
  calls_of_ev (args := [.slice a0 a0n a0c]) Try.func17 (Nat.le_of_ble_eq_true (by kernel_rfl)) (by rw [V17_eq]; exact h)
theorem ok17 : fnOk Try.prog 17 = true := by kernel_rfl

/-! cmp.Compare[int] -/
def V18 (a0 : Int) (a1 : Int) (w : World) (R : Value → World → Prop) : Prop :=
  cl Try.prog 29 [.int .i64 a0] w fun e4 w1 => ∃ x3 : Bool, e4 = Ending.returned (.bool x3) ∧
  cl Try.prog 29 [.int .i64 a1] w1 fun e7 w2 => ∃ x6 : Bool, e7 = Ending.returned (.bool x6) ∧
  pif x3 (
    pif x6 (
      R (.int .i64 0) w2) (
      R (.int .i64 (-1)) w2)) (
    pif x6 (
      R (.int .i64 1) w2) (
      pif (decide (a0 < a1)) (
        R (.int .i64 (-1)) w2) (
        pif (decide (a0 > a1)) (
          R (.int .i64 1) w2) (
          R (.int .i64 0) w2))))
def An18 : An := .seq (.leaf) (.seq (.leaf) (.seq (.leaf) (.seq (.seq (.leaf) (.cond (.seq (.seq (.leaf) (.cond (.seq (.leaf) (.leaf)) (.leaf))) (.seq (.leaf) (.leaf))) (.leaf))) (.seq (.seq (.leaf) (.cond (.seq (.leaf) (.leaf)) (.leaf))) (.seq (.seq (.leaf) (.cond (.seq (.leaf) (.leaf)) (.leaf))) (.seq (.seq (.leaf) (.cond (.seq (.leaf) (.leaf)) (.leaf))) (.seq (.leaf) (.leaf))))))))
theorem V18_eq (a0 : Int) (a1 : Int) (w : World) (R : Value → World → Prop) : evF Try.prog Try.f18 An18 [.int .i64 a0, .int .i64 a1] w R = V18 a0 a1 w R := by kernel_rfl
theorem V18_calls (a0 : Int) (a1 : Int) (w : World) (R : Value → World → Prop) (h : V18 a0 a1 w R) : Calls Try.prog 18 #[.int .i64 a0, .int .i64 a1] w fun e w' => ∃ v, e = .returned v ∧ R v w' :=
  calls_of_ev (args := [.int .i64 a0, .int .i64 a1]) Try.func18 (Nat.le_of_ble_eq_true (by kernel_rfl)) (by rw [V18_eq]; exact h)
theorem ok18 : fnOk Try.prog 18 = true := by kernel_rfl

/-! cmp.isNaN[int] -/
def V29 (a0 : Int) (w : World) (R : Value → World → Prop) : Prop :=
  R (.bool (a0 != a0)) w
def An29 : An := .seq (.leaf) (.seq (.leaf) (.leaf))
theorem V29_eq (a0 : Int) (w : World) (R : Value → World → Prop) : evF Try.prog Try.f29 An29 [.int .i64 a0] w R = V29 a0 w R := by kernel_rfl
theorem V29_calls (a0 : Int) (w : World) (R : Value → World → Prop) (h : V29 a0 w R) : Calls Try.prog 29 #[.int .i64 a0] w fun e w' => ∃ v, e = .returned v ∧ R v w' :=
  calls_of_ev (args := [.int .i64 a0]) Try.func29 (Nat.le_of_ble_eq_true (by kernel_rfl)) (by rw [V29_eq]; exact h)
theorem ok29 : fnOk Try.prog 29 = true := by kernel_rfl

end Go.Proofs.Ytglhgmgegabinaa.T
