/- The conditions under which the functions printed here return, as propositions over typed values; each is the machine's own, by the generator's theorem. -/
import Derived.Test.YtkpoagdhekimpaaProg
import Derived.Test.YtkpoagdhekimpaaVcX
set_option linter.unusedVariables false
set_option maxRecDepth 100000
namespace Go.Proofs.Ytkpoagdhekimpaa.T
open Go Go.Proofs.Ytkpoagdhekimpaa.Vc
/-! depot/depotlaw13.PacePlans -/
def V9 (a0_0 : Int) (a0_1 : Int) (a0_2 : Int) (a0_3 : Nat) (a0_4 : Int) (a0_5 : Int) (a1 : Int) (w : World) (R : Value → World → Prop) : Prop :=
  alc w [.int .i64 a0_0, .int .i64 a0_1, .int .i64 a0_2, .float .f64 a0_3, .int .i64 a0_4, .int .i64 a0_5] 24 fun b2 w1 =>
  jn (σ := Int × Unit) (fun k4 =>
    pif (cond (decide (a1 > 20000)) (decide (a1 < 1048576)) false) (
      k4 ((Int.tmod a1 20000), ()) w1) (
      k4 (a1, ()) w1)) fun s5 w2 => match s5 with
  | (v3, _) =>
  ldI .i64 w2 ((⟨b2, 0, none⟩ : Addr).add 0) fun x9 =>
  ldI .i64 w2 ((⟨b2, 0, none⟩ : Addr).add 1) fun x10 =>
  ldI .i64 w2 ((⟨b2, 0, none⟩ : Addr).add 2) fun x11 =>
  ldF .f64 w2 ((⟨b2, 0, none⟩ : Addr).add 3) fun x12 =>
  ldI .i64 w2 ((⟨b2, 0, none⟩ : Addr).add 4) fun x13 =>
  ldI .i64 w2 ((⟨b2, 0, none⟩ : Addr).add 5) fun x14 =>
  cl Try.prog 21 [.agg #[.int .i64 x9, .int .i64 x10, .int .i64 x11, .float .f64 x12, .int .i64 x13, .int .i64 x14], .int .i64 v3] w2 fun e17 w3 => ∃ (x15 : Option Addr) (x15n x15c : Nat), ∃ x16 : Int, e17 = Ending.returned (.tuple #[.slice x15 x15n x15c, .int .i64 x16]) ∧
  ldI .i64 w3 ((⟨b2, 0, none⟩ : Addr).add 0) fun x19 =>
  ldI .i64 w3 ((⟨b2, 0, none⟩ : Addr).add 1) fun x20 =>
  ldI .i64 w3 ((⟨b2, 0, none⟩ : Addr).add 2) fun x21 =>
  ldF .f64 w3 ((⟨b2, 0, none⟩ : Addr).add 3) fun x22 =>
  ldI .i64 w3 ((⟨b2, 0, none⟩ : Addr).add 4) fun x23 =>
  ldI .i64 w3 ((⟨b2, 0, none⟩ : Addr).add 5) fun x24 =>
  cl Try.prog 22 [.agg #[.int .i64 x19, .int .i64 x20, .int .i64 x21, .float .f64 x22, .int .i64 x23, .int .i64 x24], .int .i64 v3] w3 fun e27 w4 => ∃ (x25 : Option Addr) (x25n x25c : Nat), ∃ x26 : Int, e27 = Ending.returned (.tuple #[.slice x25 x25n x25c, .int .i64 x26]) ∧
  gd (α := Bool) (x16 == x26) (fun k29 =>
    cl Try.prog 23 [.slice x15 x15n x15c, .slice x25 x25n x25c] w4 fun e31 w5 => ∃ x30 : Bool, e31 = Ending.returned (.bool x30) ∧
    k29 x30 w5) false w4 fun x32 w6 =>
  R (.bool (cond (x16 == x26) x32 false)) w6
def An9 : An := .seq (.leaf) (.seq (.join [(1, .one (.int .i64))] (.seq (.leaf) (.cond (.leaf) (.leaf)))) (.seq (.leaf) (.seq (.leaf) (.seq (.leaf) (.leaf)))))
theorem V9_eq (a0_0 : Int) (a0_1 : Int) (a0_2 : Int) (a0_3 : Nat) (a0_4 : Int) (a0_5 : Int) (a1 : Int) (w : World) (R : Value → World → Prop) : evF Try.prog Try.f9 An9 [.agg #[.int .i64 a0_0, .int .i64 a0_1, .int .i64 a0_2, .float .f64 a0_3, .int .i64 a0_4, .int .i64 a0_5], .int .i64 a1] w R = V9 a0_0 a0_1 a0_2 a0_3 a0_4 a0_5 a1 w R := by kernel_rfl
theorem V9_calls (a0_0 : Int) (a0_1 : Int) (a0_2 : Int) (a0_3 : Nat) (a0_4 : Int) (a0_5 : Int) (a1 : Int) (w : World) (R : Value → World → Prop) (h : V9 a0_0 a0_1 a0_2 a0_3 a0_4 a0_5 a1 w R) : Calls Try.prog 9 #[.agg #[.int .i64 a0_0, .int .i64 a0_1, .int .i64 a0_2, .float .f64 a0_3, .int .i64 a0_4, .int .i64 a0_5], .int .i64 a1] w fun e w' => ∃ v, e = .returned v ∧ R v w' :=
  calls_of_ev (args := [.agg #[.int .i64 a0_0, .int .i64 a0_1, .int .i64 a0_2, .float .f64 a0_3, .int .i64 a0_4, .int .i64 a0_5], .int .i64 a1]) Try.func9 (Nat.le_of_ble_eq_true (by kernel_rfl)) (by rw [V9_eq]; exact h)
theorem ok9 : fnOk Try.prog 9 = true := by kernel_rfl

/-! depot/depotlaw13.spans -/
def V24 (a0 : Int) (w : World) (R : Value → World → Prop) : Prop :=
  alc w [.int .i64 1] 3 fun b3 w1 =>
  lp (σ := (Option Addr × Nat × Nat) × Int × Unit) (fun s8 w2 k7 => match s8 with
    | ((v5, v5n, v5c), v6, _) =>
    pif (decide ((v5n : Int) < a0)) (
      lp (σ := (Option Addr × Nat × Nat) × Int × Unit) (fun s16 w3 k15 => match s16 with
        | ((v13, v13n, v13c), v14, _) =>
        pif (decide (v14 < (v5n : Int))) (
          ixA v13 v13n v14 1 fun p19 =>
          ldI .i64 w3 p19 fun x20 =>
          alc w3 [.int .i64 x20] 3 fun b21 w4 =>
          ∃ (x22 : Option Addr) (x22n x22c : Nat), ∃ w5 : World, (Builtin.append_ #[31, 31] 31 #[.slice v13 v13n v13c, .slice (some (⟨b21, 0, none⟩ : Addr)) 1 1]).run Try.prog w4 = .ok (.slice x22 x22n x22c) w5 ∧
          k15 ((x22, x22n, x22c), (IntKind.wrap .i64 (v14 + 1)), ()) w5) (
          alc w3 [.int .i64 (IntKind.wrap .i64 (2 * v6))] 3 fun b25 w6 =>
          ∃ (x26 : Option Addr) (x26n x26c : Nat), ∃ w7 : World, (Builtin.append_ #[31, 31] 31 #[.slice v13 v13n v13c, .slice (some (⟨b25, 0, none⟩ : Addr)) 1 1]).run Try.prog w6 = .ok (.slice x26 x26n x26c) w7 ∧
          k7 ((x26, x26n, x26c), (IntKind.wrap .i64 (2 * v6)), ()) w7)) ((v5, v5n, v5c), 0, ()) w2) (
      R (.slice v5 v5n v5c) w2)) (((some (⟨b3, 0, none⟩ : Addr)), 1, 1), 1, ()) w1
def An24 : An := .seq (.leaf) (.seq (.leaf) (.seq (.leaf) (.seq (.blk (.loop [(3, .one (.slc)), (4, .one (.int .i64))] (.seq (.seq (.leaf) (.cond (.leaf) (.leaf))) (.blk (.seq (.leaf) (.seq (.leaf) (.seq (.seq (.leaf) (.blk (.loop [(3, .one (.slc)), (6, .one (.int .i64))] (.seq (.seq (.leaf) (.cond (.leaf) (.leaf))) (.seq (.blk (.leaf)) (.leaf)))))) (.leaf)))))))) (.seq (.leaf) (.leaf)))))
theorem V24_eq (a0 : Int) (w : World) (R : Value → World → Prop) : evF Try.prog Try.f24 An24 [.int .i64 a0] w R = V24 a0 w R := by kernel_rfl
theorem V24_calls (a0 : Int) (w : World) (R : Value → World → Prop) (h : V24 a0 w R) : Calls Try.prog 24 #[.int .i64 a0] w fun e w' => ∃ v, e = .returned v ∧ R v w' :=
  calls_of_ev (args := [.int .i64 a0]) Try.func24 (Nat.le_of_ble_eq_true (by kernel_rfl)) (by rw [V24_eq]; exact h)
theorem ok24 : fnOk Try.prog 24 = true := by kernel_rfl

/-! depot/depotlaw13.PaceSpans -/
def V10 (a0_0 : Int) (a0_1 : Int) (a0_2 : Int) (a0_3 : Nat) (a0_4 : Int) (a0_5 : Int) (a1 : Int) (w : World) (R : Value → World → Prop) : Prop :=
  alc w [.int .i64 a0_0, .int .i64 a0_1, .int .i64 a0_2, .float .f64 a0_3, .int .i64 a0_4, .int .i64 a0_5] 24 fun b2 w1 =>
  jn (σ := Int × Unit) (fun k4 =>
    pif (decide (a1 > 20000)) (
      k4 ((Int.tmod a1 20000), ()) w1) (
      k4 (a1, ()) w1)) fun s5 w2 => match s5 with
  | (v3, _) =>
  ldI .i64 w2 ((⟨b2, 0, none⟩ : Addr).add 0) fun x9 =>
  ldI .i64 w2 ((⟨b2, 0, none⟩ : Addr).add 1) fun x10 =>
  ldI .i64 w2 ((⟨b2, 0, none⟩ : Addr).add 2) fun x11 =>
  ldF .f64 w2 ((⟨b2, 0, none⟩ : Addr).add 3) fun x12 =>
  ldI .i64 w2 ((⟨b2, 0, none⟩ : Addr).add 4) fun x13 =>
  ldI .i64 w2 ((⟨b2, 0, none⟩ : Addr).add 5) fun x14 =>
  cl Try.prog 21 [.agg #[.int .i64 x9, .int .i64 x10, .int .i64 x11, .float .f64 x12, .int .i64 x13, .int .i64 x14], .int .i64 v3] w2 fun e17 w3 => ∃ (x15 : Option Addr) (x15n x15c : Nat), ∃ x16 : Int, e17 = Ending.returned (.tuple #[.slice x15 x15n x15c, .int .i64 x16]) ∧
  ldI .i64 w3 ((⟨b2, 0, none⟩ : Addr).add 0) fun x19 =>
  gd (α := Int) (decide (x19 ≥ 1)) (fun k20 =>
    ldI .i64 w3 ((⟨b2, 0, none⟩ : Addr).add 0) fun x21 =>
    k20 x21 w3) 0 w3 fun x22 w4 =>
  gd (α := Int) (cond (decide (x19 ≥ 1)) (decide (x22 ≤ 1048576)) false) (fun k23 =>
    ldI .i64 w4 ((⟨b2, 0, none⟩ : Addr).add 1) fun x24 =>
    k23 x24 w4) 0 w4 fun x25 w5 =>
  gd (α := Int) (cond (cond (decide (x19 ≥ 1)) (decide (x22 ≤ 1048576)) false) (decide (x25 ≥ 1)) false) (fun k26 =>
    ldI .i64 w5 ((⟨b2, 0, none⟩ : Addr).add 1) fun x27 =>
    k26 x27 w5) 0 w5 fun x28 w6 =>
  gd (α := Int) (cond (cond (cond (decide (x19 ≥ 1)) (decide (x22 ≤ 1048576)) false) (decide (x25 ≥ 1)) false) (decide (x28 ≤ 1048576)) false) (fun k29 =>
    ldI .i64 w6 ((⟨b2, 0, none⟩ : Addr).add 2) fun x30 =>
    k29 x30 w6) 0 w6 fun x31 w7 =>
  gd (α := Int) (cond (cond (cond (cond (decide (x19 ≥ 1)) (decide (x22 ≤ 1048576)) false) (decide (x25 ≥ 1)) false) (decide (x28 ≤ 1048576)) false) (decide (x31 ≥ 1)) false) (fun k32 =>
    ldI .i64 w7 ((⟨b2, 0, none⟩ : Addr).add 2) fun x33 =>
    k32 x33 w7) 0 w7 fun x34 w8 =>
  gd (α := Nat) (cond (cond (cond (cond (cond (decide (x19 ≥ 1)) (decide (x22 ≤ 1048576)) false) (decide (x25 ≥ 1)) false) (decide (x28 ≤ 1048576)) false) (decide (x31 ≥ 1)) false) (decide (x34 ≤ 1048576)) false) (fun k35 =>
    ldF .f64 w8 ((⟨b2, 0, none⟩ : Addr).add 3) fun x36 =>
    k35 x36 w8) 0 w8 fun x37 w9 =>
  gd (α := Nat) (cond (cond (cond (cond (cond (cond (decide (x19 ≥ 1)) (decide (x22 ≤ 1048576)) false) (decide (x25 ≥ 1)) false) (decide (x28 ≤ 1048576)) false) (decide (x31 ≥ 1)) false) (decide (x34 ≤ 1048576)) false) ((FloatKind.format .f64).order x37 4602678819172646912 == some .gt || (FloatKind.format .f64).order x37 4602678819172646912 == some .eq) false) (fun k38 =>
    ldF .f64 w9 ((⟨b2, 0, none⟩ : Addr).add 3) fun x39 =>
    k38 x39 w9) 0 w9 fun x40 w10 =>
  gd (α := Int) (cond (cond (cond (cond (cond (cond (cond (decide (x19 ≥ 1)) (decide (x22 ≤ 1048576)) false) (decide (x25 ≥ 1)) false) (decide (x28 ≤ 1048576)) false) (decide (x31 ≥ 1)) false) (decide (x34 ≤ 1048576)) false) ((FloatKind.format .f64).order x37 4602678819172646912 == some .gt || (FloatKind.format .f64).order x37 4602678819172646912 == some .eq) false) ((FloatKind.format .f64).order x40 4607182418800017408 == some .lt || (FloatKind.format .f64).order x40 4607182418800017408 == some .eq) false) (fun k41 =>
    ldI .i64 w10 ((⟨b2, 0, none⟩ : Addr).add 4) fun x42 =>
    k41 x42 w10) 0 w10 fun x43 w11 =>
  gd (α := Int) (cond (cond (cond (cond (cond (cond (cond (cond (decide (x19 ≥ 1)) (decide (x22 ≤ 1048576)) false) (decide (x25 ≥ 1)) false) (decide (x28 ≤ 1048576)) false) (decide (x31 ≥ 1)) false) (decide (x34 ≤ 1048576)) false) ((FloatKind.format .f64).order x37 4602678819172646912 == some .gt || (FloatKind.format .f64).order x37 4602678819172646912 == some .eq) false) ((FloatKind.format .f64).order x40 4607182418800017408 == some .lt || (FloatKind.format .f64).order x40 4607182418800017408 == some .eq) false) (decide (x43 ≥ 1)) false) (fun k44 =>
    ldI .i64 w11 ((⟨b2, 0, none⟩ : Addr).add 4) fun x45 =>
    k44 x45 w11) 0 w11 fun x46 w12 =>
  ldI .i64 w12 ((⟨b2, 0, none⟩ : Addr).add 0) fun x48 =>
  ldI .i64 w12 ((⟨b2, 0, none⟩ : Addr).add 1) fun x49 =>
  ldI .i64 w12 ((⟨b2, 0, none⟩ : Addr).add 2) fun x50 =>
  ldF .f64 w12 ((⟨b2, 0, none⟩ : Addr).add 3) fun x51 =>
  ldI .i64 w12 ((⟨b2, 0, none⟩ : Addr).add 4) fun x52 =>
  ldI .i64 w12 ((⟨b2, 0, none⟩ : Addr).add 5) fun x53 =>
  cl Try.prog 13 [.agg #[.int .i64 x48, .int .i64 x49, .int .i64 x50, .float .f64 x51, .int .i64 x52, .int .i64 x53]] w12 fun e55 w13 => ∃ x54 : Bool, e55 = Ending.returned (.bool x54) ∧
  pif (!(x54 == (cond (cond (cond (cond (cond (cond (cond (cond (cond (decide (x19 ≥ 1)) (decide (x22 ≤ 1048576)) false) (decide (x25 ≥ 1)) false) (decide (x28 ≤ 1048576)) false) (decide (x31 ≥ 1)) false) (decide (x34 ≤ 1048576)) false) ((FloatKind.format .f64).order x37 4602678819172646912 == some .gt || (FloatKind.format .f64).order x37 4602678819172646912 == some .eq) false) ((FloatKind.format .f64).order x40 4607182418800017408 == some .lt || (FloatKind.format .f64).order x40 4607182418800017408 == some .eq) false) (decide (x43 ≥ 1)) false) (decide (x46 ≤ 3)) false))) (
    R (.bool false) w13) (
    pif (!(cond (cond (cond (cond (cond (cond (cond (cond (cond (decide (x19 ≥ 1)) (decide (x22 ≤ 1048576)) false) (decide (x25 ≥ 1)) false) (decide (x28 ≤ 1048576)) false) (decide (x31 ≥ 1)) false) (decide (x34 ≤ 1048576)) false) ((FloatKind.format .f64).order x37 4602678819172646912 == some .gt || (FloatKind.format .f64).order x37 4602678819172646912 == some .eq) false) ((FloatKind.format .f64).order x40 4607182418800017408 == some .lt || (FloatKind.format .f64).order x40 4607182418800017408 == some .eq) false) (decide (x43 ≥ 1)) false) (decide (x46 ≤ 3)) false)) (
      R (.bool (cond (x16 == 1) ((x15n : Int) == 0) false)) w13) (
      pif (decide (v3 < 0)) (
        R (.bool (cond (x16 == 2) ((x15n : Int) == 0) false)) w13) (
        pif (x16 != 0) (
          R (.bool false) w13) (
          cl Try.prog 24 [.int .i64 (IntKind.wrap .i64 ((x15n : Int) + 1))] w13 fun e65 w14 => ∃ (x64 : Option Addr) (x64n x64c : Nat), e65 = Ending.returned (.slice x64 x64n x64c) ∧
          lp (σ := Int × Int × Int × Int × Unit) (fun s75 w15 k74 => match s75 with
            | (v70, v71, v72, v73, _) =>
            pif (decide (v73 < (x15n : Int))) (
              jn (σ := Int × Int × Int × Unit) (fun k80 =>
                ldI .i64 (World.drew w15) ((⟨b2, 0, none⟩ : Addr).add 0) fun x82 =>
                ixA x64 x64n v73 1 fun p83 =>
                ldI .i64 (World.drew w15) p83 fun x84 =>
                ldI .i64 (World.drew w15) ((⟨b2, 0, none⟩ : Addr).add 1) fun x86 =>
                ldI .i64 (World.drew w15) ((⟨b2, 0, none⟩ : Addr).add 2) fun x87 =>
                ixA x15 x15n v73 2 fun p89 =>
                ldI .i64 (World.drew w15) (p89.add 0) fun x90 =>
                gd (α := Addr) (!(cond (x90 != (IntKind.wrap .i64 (v70 + (IntKind.wrap .i64 (x82 * x84))))) true (decide ((IntKind.wrap .i64 (v70 + (IntKind.wrap .i64 (x82 * x84)))) > v3)))) (fun k91 =>
                  ixA x15 x15n v73 2 fun p92 =>
                  k91 p92 (World.drew w15)) ⟨0, 0, none⟩ (World.drew w15) fun x93 w17 =>
                gd (α := Bool) (!(cond (x90 != (IntKind.wrap .i64 (v70 + (IntKind.wrap .i64 (x82 * x84))))) true (decide ((IntKind.wrap .i64 (v70 + (IntKind.wrap .i64 (x82 * x84)))) > v3)))) (fun k94 =>
                  ldB w17 (x93.add 1) fun x95 =>
                  k94 x95 w17) false w17 fun x96 w18 =>
                pif (cond (cond (x90 != (IntKind.wrap .i64 (v70 + (IntKind.wrap .i64 (x82 * x84))))) true (decide ((IntKind.wrap .i64 (v70 + (IntKind.wrap .i64 (x82 * x84)))) > v3))) true (!(x96 == (decide ((IntKind.wrap .i64 ((IntKind.wrap .i64 (v70 + (IntKind.wrap .i64 (x82 * x84)))) - v71)) ≥ (IntKind.wrap .i64 (x86 + (IntKind.wrap .i64 (x87 * v72))))))))) (
                  R (.bool false) w18) (
                  pif (decide ((IntKind.wrap .i64 ((IntKind.wrap .i64 (v70 + (IntKind.wrap .i64 (x82 * x84)))) - v71)) ≥ (IntKind.wrap .i64 (x86 + (IntKind.wrap .i64 (x87 * v72)))))) (
                    k80 ((IntKind.wrap .i64 (v70 + (IntKind.wrap .i64 (x82 * x84)))), (IntKind.wrap .i64 (v70 + (IntKind.wrap .i64 (x82 * x84)))), (IntKind.wrap .i64 (v72 + 1)), ()) w18) (
                    k80 ((IntKind.wrap .i64 (v70 + (IntKind.wrap .i64 (x82 * x84)))), v71, v72, ()) w18))) fun s81 w16 => match s81 with
              | (v77, v78, v79, _) =>
              k74 (v77, v78, v79, (IntKind.wrap .i64 (v73 + 1)), ()) w16) (
              ldI .i64 (World.drew w15) ((⟨b2, 0, none⟩ : Addr).add 0) fun x102 =>
              ixA x64 x64n (x15n : Int) 1 fun p103 =>
              ldI .i64 (World.drew w15) p103 fun x104 =>
              R (.bool (decide ((IntKind.wrap .i64 (v70 + (IntKind.wrap .i64 (x102 * x104)))) > v3))) (World.drew w15))) (0, 0, 0, 0, ()) w14))))
def An10 : An := .seq (.leaf) (.seq (.join [(1, .one (.int .i64))] (.seq (.leaf) (.cond (.leaf) (.leaf)))) (.seq (.leaf) (.seq (.leaf) (.seq (.seq (.leaf) (.cond (.seq (.leaf) (.leaf)) (.leaf))) (.seq (.seq (.leaf) (.cond (.seq (.leaf) (.leaf)) (.leaf))) (.seq (.seq (.leaf) (.cond (.seq (.leaf) (.leaf)) (.leaf))) (.seq (.seq (.leaf) (.cond (.seq (.leaf) (.leaf)) (.leaf))) (.seq (.leaf) (.seq (.leaf) (.seq (.leaf) (.seq (.leaf) (.seq (.seq (.leaf) (.blk (.loop [(9, .one (.int .i64)), (10, .one (.int .i64)), (11, .one (.int .i64)), (12, .one (.int .i64))] (.seq (.seq (.leaf) (.cond (.leaf) (.leaf))) (.seq (.join [(9, .one (.int .i64)), (10, .one (.int .i64)), (11, .one (.int .i64))] (.blk (.seq (.draw [0, 0, 2, 0, 0, 24, 56, 126, 255, 511]) (.seq (.leaf) (.seq (.seq (.leaf) (.cond (.seq (.leaf) (.leaf)) (.leaf))) (.seq (.leaf) (.cond (.seq (.leaf) (.leaf)) (.leaf)))))))) (.leaf)))))) (.seq (.draw [0, 0, 2, 0, 0, 16, 56, 120, 254, 511, 0, 2047, 4095]) (.leaf))))))))))))))
theorem V10_eq (a0_0 : Int) (a0_1 : Int) (a0_2 : Int) (a0_3 : Nat) (a0_4 : Int) (a0_5 : Int) (a1 : Int) (w : World) (R : Value → World → Prop) : evF Try.prog Try.f10 An10 [.agg #[.int .i64 a0_0, .int .i64 a0_1, .int .i64 a0_2, .float .f64 a0_3, .int .i64 a0_4, .int .i64 a0_5], .int .i64 a1] w R = V10 a0_0 a0_1 a0_2 a0_3 a0_4 a0_5 a1 w R := by kernel_rfl
theorem V10_calls (a0_0 : Int) (a0_1 : Int) (a0_2 : Int) (a0_3 : Nat) (a0_4 : Int) (a0_5 : Int) (a1 : Int) (w : World) (R : Value → World → Prop) (h : V10 a0_0 a0_1 a0_2 a0_3 a0_4 a0_5 a1 w R) : Calls Try.prog 10 #[.agg #[.int .i64 a0_0, .int .i64 a0_1, .int .i64 a0_2, .float .f64 a0_3, .int .i64 a0_4, .int .i64 a0_5], .int .i64 a1] w fun e w' => ∃ v, e = .returned v ∧ R v w' :=
  calls_of_ev (args := [.agg #[.int .i64 a0_0, .int .i64 a0_1, .int .i64 a0_2, .float .f64 a0_3, .int .i64 a0_4, .int .i64 a0_5], .int .i64 a1]) Try.func10 (Nat.le_of_ble_eq_true (by kernel_rfl)) (by rw [V10_eq]; exact h)
theorem ok10 : fnOk Try.prog 10 = true := by kernel_rfl

/-! depot/depotlaw13.PaceBegins -/
def V11 (a0_0 : Int) (a0_1 : Int) (a0_2 : Int) (a0_3 : Nat) (a0_4 : Int) (a0_5 : Int) (a1 : Int) (a2 : Int) (w : World) (R : Value → World → Prop) : Prop :=
  alc w [.int .i64 a0_0, .int .i64 a0_1, .int .i64 a0_2, .float .f64 a0_3, .int .i64 a0_4, .int .i64 a0_5] 24 fun b2 w1 =>
  jn (σ := Int × Unit) (fun k4 =>
    pif (cond (decide (a1 < 0)) true (decide (a1 > 5000))) (
      k4 (5000, ()) w1) (
      k4 (a1, ()) w1)) fun s5 w2 => match s5 with
  | (v3, _) =>
  jn (σ := Int × Unit) (fun k9 =>
    pif (cond (decide (a2 < 0)) true (decide (a2 > 5000))) (
      k9 (100, ()) w2) (
      k9 (a2, ()) w2)) fun s10 w3 => match s10 with
  | (v8, _) =>
  ldI .i64 w3 ((⟨b2, 0, none⟩ : Addr).add 0) fun x14 =>
  ldI .i64 w3 ((⟨b2, 0, none⟩ : Addr).add 1) fun x15 =>
  ldI .i64 w3 ((⟨b2, 0, none⟩ : Addr).add 2) fun x16 =>
  ldF .f64 w3 ((⟨b2, 0, none⟩ : Addr).add 3) fun x17 =>
  ldI .i64 w3 ((⟨b2, 0, none⟩ : Addr).add 4) fun x18 =>
  ldI .i64 w3 ((⟨b2, 0, none⟩ : Addr).add 5) fun x19 =>
  cl Try.prog 21 [.agg #[.int .i64 x14, .int .i64 x15, .int .i64 x16, .float .f64 x17, .int .i64 x18, .int .i64 x19], .int .i64 v3] w3 fun e22 w4 => ∃ (x20 : Option Addr) (x20n x20c : Nat), ∃ x21 : Int, e22 = Ending.returned (.tuple #[.slice x20 x20n x20c, .int .i64 x21]) ∧
  ldI .i64 w4 ((⟨b2, 0, none⟩ : Addr).add 0) fun x24 =>
  ldI .i64 w4 ((⟨b2, 0, none⟩ : Addr).add 1) fun x25 =>
  ldI .i64 w4 ((⟨b2, 0, none⟩ : Addr).add 2) fun x26 =>
  ldF .f64 w4 ((⟨b2, 0, none⟩ : Addr).add 3) fun x27 =>
  ldI .i64 w4 ((⟨b2, 0, none⟩ : Addr).add 4) fun x28 =>
  ldI .i64 w4 ((⟨b2, 0, none⟩ : Addr).add 5) fun x29 =>
  cl Try.prog 21 [.agg #[.int .i64 x24, .int .i64 x25, .int .i64 x26, .float .f64 x27, .int .i64 x28, .int .i64 x29], .int .i64 (IntKind.wrap .i64 (v3 + v8))] w4 fun e32 w5 => ∃ (x30 : Option Addr) (x30n x30c : Nat), ∃ x31 : Int, e32 = Ending.returned (.tuple #[.slice x30 x30n x30c, .int .i64 x31]) ∧
  gd (α := (Int × Int × Int × Nat × Int × Int × Unit)) (!(x21 != x31)) (fun k34 =>
    ldI .i64 w5 ((⟨b2, 0, none⟩ : Addr).add 0) fun x35 =>
    ldI .i64 w5 ((⟨b2, 0, none⟩ : Addr).add 1) fun x36 =>
    ldI .i64 w5 ((⟨b2, 0, none⟩ : Addr).add 2) fun x37 =>
    ldF .f64 w5 ((⟨b2, 0, none⟩ : Addr).add 3) fun x38 =>
    ldI .i64 w5 ((⟨b2, 0, none⟩ : Addr).add 4) fun x39 =>
    ldI .i64 w5 ((⟨b2, 0, none⟩ : Addr).add 5) fun x40 =>
    k34 (x35, x36, x37, x38, x39, x40, ()) w5) (0, 0, 0, 0, 0, 0, ()) w5 fun x41 w6 =>
  gd (α := Bool) (!(x21 != x31)) (fun k42 =>
    cl Try.prog 13 [.agg #[.int .i64 x41.1, .int .i64 x41.2.1, .int .i64 x41.2.2.1, .float .f64 x41.2.2.2.1, .int .i64 x41.2.2.2.2.1, .int .i64 x41.2.2.2.2.2.1]] w6 fun e44 w7 => ∃ x43 : Bool, e44 = Ending.returned (.bool x43) ∧
    k42 x43 w7) false w6 fun x45 w8 =>
  pif (cond (cond (x21 != x31) true (!((x21 == 0) == x45))) true (decide ((x20n : Int) > (x30n : Int)))) (
    R (.bool false) w8) (
    lp (σ := Int × Unit) (fun s50 w9 k49 => match s50 with
      | (v48, _) =>
      pif (decide (v48 < (x30n : Int))) (
        ixA x30 x30n v48 2 fun p53 =>
        ldI .i64 w9 (p53.add 0) fun x54 =>
        pif (!((decide (v48 < (x20n : Int))) == (decide (x54 ≤ v3)))) (
          R (.bool false) w9) (
          k49 ((IntKind.wrap .i64 (v48 + 1)), ()) w9)) (
        0 ≤ (x20n : Int) ∧ (x20n : Int) ≤ (x30c : Int) ∧
        cl Try.prog 23 [.slice x20 x20n x20c, .slice (slA x30 x30c 0 2) ((Int.toNat (x20n : Int)) - 0) (x30c - 0)] w9 fun e59 w10 => ∃ x58 : Bool, e59 = Ending.returned (.bool x58) ∧
        gd (α := Int) x58 (fun k60 =>
          cl Try.prog 15 [.int .i64 3] w10 fun e62 w11 => ∃ x61 : Int, e62 = Ending.returned (.int .i64 x61) ∧
          k60 x61 w11) 0 w10 fun x63 w12 =>
        R (.bool (cond x58 (x63 == 2) false)) w12)) (0, ()) w8)
def An11 : An := .seq (.leaf) (.seq (.join [(1, .one (.int .i64))] (.seq (.leaf) (.cond (.leaf) (.leaf)))) (.seq (.join [(2, .one (.int .i64))] (.seq (.leaf) (.cond (.leaf) (.leaf)))) (.seq (.leaf) (.seq (.leaf) (.seq (.seq (.leaf) (.cond (.seq (.leaf) (.leaf)) (.leaf))) (.seq (.seq (.leaf) (.blk (.loop [(11, .one (.int .i64))] (.seq (.seq (.leaf) (.cond (.leaf) (.leaf))) (.seq (.blk (.seq (.leaf) (.cond (.seq (.leaf) (.leaf)) (.leaf)))) (.leaf)))))) (.seq (.leaf) (.leaf))))))))
theorem V11_eq (a0_0 : Int) (a0_1 : Int) (a0_2 : Int) (a0_3 : Nat) (a0_4 : Int) (a0_5 : Int) (a1 : Int) (a2 : Int) (w : World) (R : Value → World → Prop) : evF Try.prog Try.f11 An11 [.agg #[.int .i64 a0_0, .int .i64 a0_1, .int .i64 a0_2, .float .f64 a0_3, .int .i64 a0_4, .int .i64 a0_5], .int .i64 a1, .int .i64 a2] w R = V11 a0_0 a0_1 a0_2 a0_3 a0_4 a0_5 a1 a2 w R := by kernel_rfl
theorem V11_calls (a0_0 : Int) (a0_1 : Int) (a0_2 : Int) (a0_3 : Nat) (a0_4 : Int) (a0_5 : Int) (a1 : Int) (a2 : Int) (w : World) (R : Value → World → Prop) (h : V11 a0_0 a0_1 a0_2 a0_3 a0_4 a0_5 a1 a2 w R) : Calls Try.prog 11 #[.agg #[.int .i64 a0_0, .int .i64 a0_1, .int .i64 a0_2, .float .f64 a0_3, .int .i64 a0_4, .int .i64 a0_5], .int .i64 a1, .int .i64 a2] w fun e w' => ∃ v, e = .returned v ∧ R v w' :=
  calls_of_ev (args := [.agg #[.int .i64 a0_0, .int .i64 a0_1, .int .i64 a0_2, .float .f64 a0_3, .int .i64 a0_4, .int .i64 a0_5], .int .i64 a1, .int .i64 a2]) Try.func11 (Nat.le_of_ble_eq_true (by kernel_rfl)) (by rw [V11_eq]; exact h)
theorem ok11 : fnOk Try.prog 11 = true := by kernel_rfl

end Go.Proofs.Ytkpoagdhekimpaa.T
