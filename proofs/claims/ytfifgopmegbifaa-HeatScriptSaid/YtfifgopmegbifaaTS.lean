/- The conditions under which the functions printed here return, as propositions over typed values; each is the machine's own, by the generator's theorem. -/
import Derived.Test.YtfifgopmegbifaaProg
import Derived.Test.YtfifgopmegbifaaVcG
set_option linter.unusedVariables false
set_option maxRecDepth 100000
namespace Go.Proofs.Ytfifgopmegbifaa.T
open Go Go.Proofs.Ytfifgopmegbifaa.Vc
/-! depot/depotlaw14.HeatScales -/
def V4 (a0 : Int) (w : World) (R : Value → World → Prop) : Prop :=
  cl Try.prog 12 [.int .i64 a0, .int .i64 665] w fun e4 w1 => ∃ x3 : Int, e4 = Ending.returned (.int .i64 x3) ∧
  cl Try.prog 9 [.int .i64 2, .float .f64 4602678819172646912] w1 fun e8 w2 => ∃ x6 : Option Addr, ∃ x7 : Int, e8 = Ending.returned (.tuple #[.pointer x6, .int .i64 x7]) ∧
  gd (α := Int) (!(cond (Option.isNone x6) true (x7 != 0))) (fun k10 =>
    cl Try.prog 13 [.pointer x6, .int .i64 1] w2 fun e12 w3 => ∃ x11 : Int, e12 = Ending.returned (.int .i64 x11) ∧
    k10 x11 w3) 0 w2 fun x13 w4 =>
  pif (cond (cond (Option.isNone x6) true (x7 != 0)) true (x13 != 0)) (
    R (.bool false) w4) (
    lp (σ := Nat × Nat × Int × Unit) (fun s21 w5 k20 => match s21 with
      | (v17, v18, v19, _) =>
      pif (decide (v19 < x3)) (
        jn (σ := Nat × Nat × Unit) (fun k25 =>
          cl Try.prog 14 [.pointer x6] w5 fun e28 w7 => e28 = Ending.returned (.tuple #[]) ∧
          ∃ x30 : Nat, (FloatKind.format .f64).mul v18 4611686018427387904 = some x30 ∧
          pif (v19 == 332) (
            ∃ x33 : Nat, (FloatKind.format .f64).mul x30 3110860544497550640 = some x33 ∧
            ∃ x35 : Nat, (FloatKind.format .f64).mul v17 3110860544497550640 = some x35 ∧
            k25 (x35, x33, ()) w7) (
            k25 (v17, x30, ()) w7)) fun s26 w6 => match s26 with
        | (v23, v24, _) =>
        k20 (v23, v24, (IntKind.wrap .i64 (v19 + 1)), ()) w6) (
        cl Try.prog 13 [.pointer x6, .int .i64 2] w5 fun e39 w8 => ∃ x38 : Int, e39 = Ending.returned (.int .i64 x38) ∧
        pif (x38 != 0) (
          R (.bool false) w8) (
          cl Try.prog 11 [.pointer x6, .int .i64 1] w8 fun e44 w9 => ∃ x42 : Nat, ∃ x43 : Int, e44 = Ending.returned (.tuple #[.float .f64 x42, .int .i64 x43]) ∧
          cl Try.prog 11 [.pointer x6, .int .i64 2] w9 fun e48 w10 => ∃ x46 : Nat, ∃ x47 : Int, e48 = Ending.returned (.tuple #[.float .f64 x46, .int .i64 x47]) ∧
          R (.bool (cond (cond (cond (x43 == 0) (x47 == 0) false) ((FloatKind.format .f64).order x42 v17 == some .eq) false) ((FloatKind.format .f64).order x46 v18 == some .eq) false)) w10))) (4607182418800017408, 4607182418800017408, 0, ()) w4)
def An4 : An := .seq (.leaf) (.seq (.leaf) (.seq (.leaf) (.seq (.seq (.leaf) (.cond (.seq (.leaf) (.leaf)) (.leaf))) (.seq (.leaf) (.seq (.seq (.leaf) (.blk (.loop [(6, .one (.flt .f64)), (7, .one (.flt .f64)), (8, .one (.int .i64))] (.seq (.seq (.leaf) (.cond (.leaf) (.leaf))) (.seq (.join [(6, .one (.flt .f64)), (7, .one (.flt .f64))] (.blk (.seq (.leaf) (.seq (.leaf) (.seq (.leaf) (.cond (.seq (.leaf) (.leaf)) (.leaf))))))) (.leaf)))))) (.seq (.seq (.leaf) (.cond (.seq (.leaf) (.leaf)) (.leaf))) (.seq (.leaf) (.seq (.leaf) (.seq (.leaf) (.leaf))))))))))
theorem V4_eq (a0 : Int) (w : World) (R : Value → World → Prop) : evF Try.prog Try.f4 An4 [.int .i64 a0] w R = V4 a0 w R := by kernel_rfl
theorem V4_calls (a0 : Int) (w : World) (R : Value → World → Prop) (h : V4 a0 w R) : Calls Try.prog 4 #[.int .i64 a0] w fun e w' => ∃ v, e = .returned v ∧ R v w' :=
  calls_of_ev (args := [.int .i64 a0]) Try.func4 (Nat.le_of_ble_eq_true (by kernel_rfl)) (by rw [V4_eq]; exact h)
theorem ok4 : fnOk Try.prog 4 = true := by kernel_rfl

/-! depot/depotkit.Pick -/
def V12 (a0 : Int) (a1 : Int) (w : World) (R : Value → World → Prop) : Prop :=
  a1 ≠ 0 ∧
  jn (σ := Int × Unit) (fun k4 =>
    pif (decide ((Int.tmod a0 a1) < 0)) (
      k4 ((IntKind.wrap .i64 ((Int.tmod a0 a1) + a1)), ()) w) (
      k4 ((Int.tmod a0 a1), ()) w)) fun s5 w1 => match s5 with
  | (v3, _) =>
  R (.int .i64 v3) w1
def An12 : An := .seq (.leaf) (.seq (.leaf) (.seq (.join [(0, .one (.int .i64))] (.seq (.leaf) (.cond (.leaf) (.leaf)))) (.seq (.leaf) (.leaf))))
theorem V12_eq (a0 : Int) (a1 : Int) (w : World) (R : Value → World → Prop) : evF Try.prog Try.f12 An12 [.int .i64 a0, .int .i64 a1] w R = V12 a0 a1 w R := by kernel_rfl
theorem V12_calls (a0 : Int) (a1 : Int) (w : World) (R : Value → World → Prop) (h : V12 a0 a1 w R) : Calls Try.prog 12 #[.int .i64 a0, .int .i64 a1] w fun e w' => ∃ v, e = .returned v ∧ R v w' :=
  calls_of_ev (args := [.int .i64 a0, .int .i64 a1]) Try.func12 (Nat.le_of_ble_eq_true (by kernel_rfl)) (by rw [V12_eq]; exact h)
theorem ok12 : fnOk Try.prog 12 = true := by kernel_rfl

/-! (*depot/heat.Heat).Bump -/
def V13 (a0 : Option Addr) (a1 : Int) (w : World) (R : Value → World → Prop) : Prop :=
  cl Try.prog 29 [.pointer a0, .int .i64 a1] w fun e4 w1 => ∃ x3 : Bool, e4 = Ending.returned (.bool x3) ∧
  pif (!x3) (
    R (.int .i64 2) w1) (
    nn a0 fun p6 =>
    ldC (World.drew w1) (p6.add 0) fun x7 x7n x7c =>
    ixA x7 x7n (IntKind.wrap .i64 (a1 - 1)) 1 fun p8 =>
    ldF .f64 (World.drew w1) p8 fun x9 =>
    nn a0 fun p10 =>
    ldF .f64 (World.drew w1) (p10.add 1) fun x11 =>
    ∃ x12 : Nat, (FloatKind.format .f64).add x9 x11 = some x12 ∧
    ixA x7 x7n (IntKind.wrap .i64 (a1 - 1)) 1 fun p13 =>
    st (World.drew w1) (p13.add 0) (.float .f64 x12) fun w2 =>
    jn (σ := Unit) (fun k14 =>
      nn a0 fun p17 =>
      cl Try.prog 30 [.pointer (some (p17.add 3)), .int .i64 a1] w2 fun e19 w4 => ∃ x18 : Bool, e19 = Ending.returned (.bool x18) ∧
      pif x18 (
        nn a0 fun p20 =>
        nn a0 fun p21 =>
        ldC (World.drew w4) ((p21.add 3).add 1) fun x22 x22n x22c =>
        ixA x22 x22n (IntKind.wrap .i64 (a1 - 1)) 1 fun p23 =>
        ldI .i64 (World.drew w4) p23 fun x24 =>
        cl Try.prog 31 [.pointer (some (p20.add 3)), .int .i64 x24] (World.drew w4) fun e25 w5 => e25 = Ending.returned (.tuple #[]) ∧
        k14 (()) w5) (
        k14 (()) w4)) fun s15 w3 => match s15 with
    | (_) =>
    jn (σ := Unit) (fun k26 =>
      nn a0 fun p29 =>
      ldC w3 (p29.add 0) fun x30 x30n x30c =>
      ixA x30 x30n (IntKind.wrap .i64 (a1 - 1)) 1 fun p31 =>
      ldF .f64 w3 p31 fun x32 =>
      pif ((FloatKind.format .f64).order x32 6103021453049119613 == some .gt) (
        cl Try.prog 32 [.pointer a0] w3 fun e34 w7 => e34 = Ending.returned (.tuple #[]) ∧
        k26 (()) w7) (
        k26 (()) w3)) fun s27 w6 => match s27 with
    | (_) =>
    R (.int .i64 0) w6)
def An13 : An := .seq (.leaf) (.seq (.seq (.leaf) (.cond (.seq (.leaf) (.leaf)) (.leaf))) (.seq (.draw [0, 1, 3, 7, 0, 16, 63, 127, 0, 256, 768, 1792, 4095, 8191, 16383]) (.seq (.join [] (.seq (.leaf) (.cond (.draw [0, 1, 3, 0, 8, 24, 56, 120, 0, 256, 1016, 2040, 4095]) (.leaf)))) (.seq (.join [] (.seq (.leaf) (.cond (.leaf) (.leaf)))) (.seq (.leaf) (.leaf))))))
theorem V13_eq (a0 : Option Addr) (a1 : Int) (w : World) (R : Value → World → Prop) : evF Try.prog Try.f13 An13 [.pointer a0, .int .i64 a1] w R = V13 a0 a1 w R := by kernel_rfl
theorem V13_calls (a0 : Option Addr) (a1 : Int) (w : World) (R : Value → World → Prop) (h : V13 a0 a1 w R) : Calls Try.prog 13 #[.pointer a0, .int .i64 a1] w fun e w' => ∃ v, e = .returned v ∧ R v w' :=
  calls_of_ev (args := [.pointer a0, .int .i64 a1]) Try.func13 (Nat.le_of_ble_eq_true (by kernel_rfl)) (by rw [V13_eq]; exact h)
theorem ok13 : fnOk Try.prog 13 = true := by kernel_rfl

/-! (*depot/heat.Heat).Cool -/
def V14 (a0 : Option Addr) (w : World) (R : Value → World → Prop) : Prop :=
  nn a0 fun p1 =>
  ldF .f64 (World.drew w) (p1.add 1) fun x2 =>
  nn a0 fun p3 =>
  ldF .f64 (World.drew w) (p3.add 2) fun x4 =>
  ∃ x5 : Nat, (FloatKind.format .f64).div x2 x4 = some x5 ∧
  nn a0 fun p6 =>
  st (World.drew w) ((p6.add 1).add 0) (.float .f64 x5) fun w1 =>
  nn a0 fun p8 =>
  ldF .f64 w1 (p8.add 1) fun x9 =>
  pif ((FloatKind.format .f64).order x9 6103021453049119613 == some .gt) (
    cl Try.prog 32 [.pointer a0] w1 fun e11 w2 => e11 = Ending.returned (.tuple #[]) ∧
    R (.tuple #[]) w2) (
    R (.tuple #[]) w1)
def An14 : An := .seq (.draw [0, 1, 3, 7, 0, 16, 48, 112, 255, 511, 1023, 2047]) (.seq (.leaf) (.cond (.leaf) (.leaf)))
theorem V14_eq (a0 : Option Addr) (w : World) (R : Value → World → Prop) : evF Try.prog Try.f14 An14 [.pointer a0] w R = V14 a0 w R := by kernel_rfl
theorem V14_calls (a0 : Option Addr) (w : World) (R : Value → World → Prop) (h : V14 a0 w R) : Calls Try.prog 14 #[.pointer a0] w fun e w' => ∃ v, e = .returned v ∧ R v w' :=
  calls_of_ev (args := [.pointer a0]) Try.func14 (Nat.le_of_ble_eq_true (by kernel_rfl)) (by rw [V14_eq]; exact h)
theorem ok14 : fnOk Try.prog 14 = true := by kernel_rfl

/-! (*depot/heat.heap[int]).up -/
def V31 (a0 : Option Addr) (a1 : Int) (w : World) (R : Value → World → Prop) : Prop :=
  nn a0 fun p2 =>
  ldC w (p2.add 0) fun x3 x3n x3c =>
  ixA x3 x3n a1 1 fun p4 =>
  ldI .i64 w p4 fun x5 =>
  jn (σ := Int × Unit) (fun k7 =>
    lp (σ := Int × Unit) (fun s11 w2 k10 => match s11 with
      | (v9, _) =>
      pif (decide (v9 > 0)) (
        nn a0 fun p14 =>
        ldV (World.drew w2) (p14.add 2) fun x15 =>
        nn a0 fun p16 =>
        ldC (World.drew w2) (p16.add 0) fun x17 x17n x17c =>
        ixA x17 x17n (IntKind.wrap .i64 (Int.tdiv (IntKind.wrap .i64 (v9 - 1)) 2)) 1 fun p18 =>
        ldI .i64 (World.drew w2) p18 fun x19 =>
        clF Try.prog (x15) [.int .i64 x5, .int .i64 x19] (World.drew w2) fun e21 w3 => ∃ x20 : Bool, e21 = Ending.returned (.bool x20) ∧
        pif (!x20) (
          k7 (v9, ()) w3) (
          nn a0 fun p23 =>
          ldC w3 (p23.add 0) fun x24 x24n x24c =>
          ixA x24 x24n (IntKind.wrap .i64 (Int.tdiv (IntKind.wrap .i64 (v9 - 1)) 2)) 1 fun p25 =>
          ldI .i64 w3 p25 fun x26 =>
          cl Try.prog 28 [.pointer a0, .int .i64 v9, .int .i64 x26] w3 fun e27 w4 => e27 = Ending.returned (.tuple #[]) ∧
          k10 ((IntKind.wrap .i64 (Int.tdiv (IntKind.wrap .i64 (v9 - 1)) 2)), ()) w4)) (
        k7 (v9, ()) w2)) (a1, ()) w) fun s8 w1 => match s8 with
  | (v6, _) =>
  cl Try.prog 28 [.pointer a0, .int .i64 v6, .int .i64 x5] w1 fun e30 w5 => e30 = Ending.returned (.tuple #[]) ∧
  R (.tuple #[]) w5
def An31 : An := .seq (.leaf) (.seq (.join [(1, .one (.int .i64))] (.blk (.loop [(1, .one (.int .i64))] (.seq (.seq (.leaf) (.cond (.leaf) (.leaf))) (.blk (.seq (.leaf) (.seq (.seq (.draw [0, 1, 3, 7, 0, 0, 32, 96, 224, 0, 992, 2016, 4095, 8191]) (.cond (.leaf) (.leaf))) (.seq (.leaf) (.leaf))))))))) (.leaf))
theorem V31_eq (a0 : Option Addr) (a1 : Int) (w : World) (R : Value → World → Prop) : evF Try.prog Try.f31 An31 [.pointer a0, .int .i64 a1] w R = V31 a0 a1 w R := by kernel_rfl
theorem V31_calls (a0 : Option Addr) (a1 : Int) (w : World) (R : Value → World → Prop) (h : V31 a0 a1 w R) : Calls Try.prog 31 #[.pointer a0, .int .i64 a1] w fun e w' => ∃ v, e = .returned v ∧ R v w' :=
  calls_of_ev (args := [.pointer a0, .int .i64 a1]) Try.func31 (Nat.le_of_ble_eq_true (by kernel_rfl)) (by rw [V31_eq]; exact h)
theorem ok31 : fnOk Try.prog 31 = true := by kernel_rfl

/-! (*depot/heat.Heat).scale -/
def V32 (a0 : Option Addr) (w : World) (R : Value → World → Prop) : Prop :=
  nn a0 fun p2 =>
  ldC w (p2.add 0) fun x3 x3n x3c =>
  lp (σ := Int × Unit) (fun s6 w1 k5 => match s6 with
    | (v4, _) =>
    pif (decide (v4 < (x3n : Int))) (
      nn a0 fun p9 =>
      ldC (World.drew w1) (p9.add 0) fun x10 x10n x10c =>
      nn a0 fun p11 =>
      ldC (World.drew w1) (p11.add 0) fun x12 x12n x12c =>
      ixA x12 x12n v4 1 fun p13 =>
      ldF .f64 (World.drew w1) p13 fun x14 =>
      ∃ x15 : Nat, (FloatKind.format .f64).mul x14 3110860544497550640 = some x15 ∧
      ixA x10 x10n v4 1 fun p16 =>
      st (World.drew w1) (p16.add 0) (.float .f64 x15) fun w2 =>
      k5 ((IntKind.wrap .i64 (v4 + 1)), ()) w2) (
      nn a0 fun p19 =>
      ldF .f64 w1 (p19.add 1) fun x20 =>
      ∃ x21 : Nat, (FloatKind.format .f64).mul x20 3110860544497550640 = some x21 ∧
      nn a0 fun p22 =>
      st w1 ((p22.add 1).add 0) (.float .f64 x21) fun w3 =>
      nn a0 fun p24 =>
      cl Try.prog 46 [.pointer (some (p24.add 3))] w3 fun e25 w4 => e25 = Ending.returned (.tuple #[]) ∧
      R (.tuple #[]) w4)) (0, ()) w
def An32 : An := .seq (.seq (.leaf) (.blk (.loop [(8, .one (.int .i64))] (.seq (.leaf) (.seq (.cond (.leaf) (.leaf)) (.seq (.blk (.seq (.leaf) (.draw [0, 1, 3, 7, 0, 0, 32, 96, 224, 0, 992, 2016, 4064, 8191, 16383]))) (.leaf))))))) (.seq (.leaf) (.leaf))
theorem V32_eq (a0 : Option Addr) (w : World) (R : Value → World → Prop) : evF Try.prog Try.f32 An32 [.pointer a0] w R = V32 a0 w R := by kernel_rfl
theorem V32_calls (a0 : Option Addr) (w : World) (R : Value → World → Prop) (h : V32 a0 w R) : Calls Try.prog 32 #[.pointer a0] w fun e w' => ∃ v, e = .returned v ∧ R v w' :=
  calls_of_ev (args := [.pointer a0]) Try.func32 (Nat.le_of_ble_eq_true (by kernel_rfl)) (by rw [V32_eq]; exact h)
theorem ok32 : fnOk Try.prog 32 = true := by kernel_rfl

/-! (*depot/heat.heap[int]).again -/
def V46 (a0 : Option Addr) (w : World) (R : Value → World → Prop) : Prop :=
  nn a0 fun p2 =>
  ldC w (p2.add 0) fun x3 x3n x3c =>
  lp (σ := Int × Unit) (fun s6 w1 k5 => match s6 with
    | (v4, _) =>
    pif (decide (v4 ≥ 0)) (
      cl Try.prog 51 [.pointer a0, .int .i64 v4] w1 fun e9 w2 => e9 = Ending.returned (.tuple #[]) ∧
      k5 ((IntKind.wrap .i64 (v4 - 1)), ()) w2) (
      R (.tuple #[]) w1)) ((IntKind.wrap .i64 ((IntKind.wrap .i64 (Int.tdiv (x3n : Int) 2)) - 1)), ()) w
def An46 : An := .seq (.leaf) (.blk (.loop [(2, .one (.int .i64))] (.seq (.seq (.leaf) (.cond (.leaf) (.leaf))) (.seq (.blk (.leaf)) (.leaf)))))
theorem V46_eq (a0 : Option Addr) (w : World) (R : Value → World → Prop) : evF Try.prog Try.f46 An46 [.pointer a0] w R = V46 a0 w R := by kernel_rfl
theorem V46_calls (a0 : Option Addr) (w : World) (R : Value → World → Prop) (h : V46 a0 w R) : Calls Try.prog 46 #[.pointer a0] w fun e w' => ∃ v, e = .returned v ∧ R v w' :=
  calls_of_ev (args := [.pointer a0]) Try.func46 (Nat.le_of_ble_eq_true (by kernel_rfl)) (by rw [V46_eq]; exact h)
theorem ok46 : fnOk Try.prog 46 = true := by kernel_rfl

/-! (*depot/heat.heap[int]).down -/
def V51 (a0 : Option Addr) (a1 : Int) (w : World) (R : Value → World → Prop) : Prop :=
  nn a0 fun p2 =>
  ldC w (p2.add 0) fun x3 x3n x3c =>
  ixA x3 x3n a1 1 fun p4 =>
  ldI .i64 w p4 fun x5 =>
  jn (σ := Int × Unit) (fun k7 =>
    lp (σ := Int × Unit) (fun s11 w2 k10 => match s11 with
      | (v9, _) =>
      nn a0 fun p14 =>
      ldC w2 (p14.add 0) fun x15 x15n x15c =>
      pif (decide ((IntKind.wrap .i64 ((IntKind.wrap .i64 (2 * v9)) + 1)) ≥ (x15n : Int))) (
        k7 (v9, ()) w2) (
        jn (σ := Int × Unit) (fun k17 =>
          nn a0 fun p19 =>
          ldC (World.drew w2) (p19.add 0) fun x20 x20n x20c =>
          gd (α := Addr) (decide ((IntKind.wrap .i64 ((IntKind.wrap .i64 ((IntKind.wrap .i64 (2 * v9)) + 1)) + 1)) < (x20n : Int))) (fun k21 =>
            nn a0 fun p22 =>
            k21 p22 (World.drew w2)) ⟨0, 0, none⟩ (World.drew w2) fun x23 _ =>
          gd (α := Value) (decide ((IntKind.wrap .i64 ((IntKind.wrap .i64 ((IntKind.wrap .i64 (2 * v9)) + 1)) + 1)) < (x20n : Int))) (fun k24 =>
            ldV (World.drew w2) (x23.add 2) fun x25 =>
            k24 x25 (World.drew w2)) undef (World.drew w2) fun x26 _ =>
          gd (α := Addr) (decide ((IntKind.wrap .i64 ((IntKind.wrap .i64 ((IntKind.wrap .i64 (2 * v9)) + 1)) + 1)) < (x20n : Int))) (fun k27 =>
            nn a0 fun p28 =>
            k27 p28 (World.drew w2)) ⟨0, 0, none⟩ (World.drew w2) fun x29 _ =>
          gd (α := (Option Addr × Nat × Nat)) (decide ((IntKind.wrap .i64 ((IntKind.wrap .i64 ((IntKind.wrap .i64 (2 * v9)) + 1)) + 1)) < (x20n : Int))) (fun k30 =>
            ldC (World.drew w2) (x29.add 0) fun x31 x31n x31c =>
            k30 (x31, x31n, x31c) (World.drew w2)) (none, 0, 0) (World.drew w2) fun x32 _ =>
          gd (α := Addr) (decide ((IntKind.wrap .i64 ((IntKind.wrap .i64 ((IntKind.wrap .i64 (2 * v9)) + 1)) + 1)) < (x20n : Int))) (fun k33 =>
            ixA x32.1 x32.2.1 (IntKind.wrap .i64 ((IntKind.wrap .i64 ((IntKind.wrap .i64 (2 * v9)) + 1)) + 1)) 1 fun p34 =>
            k33 p34 (World.drew w2)) ⟨0, 0, none⟩ (World.drew w2) fun x35 _ =>
          gd (α := Int) (decide ((IntKind.wrap .i64 ((IntKind.wrap .i64 ((IntKind.wrap .i64 (2 * v9)) + 1)) + 1)) < (x20n : Int))) (fun k36 =>
            ldI .i64 (World.drew w2) x35 fun x37 =>
            k36 x37 (World.drew w2)) 0 (World.drew w2) fun x38 _ =>
          gd (α := Addr) (decide ((IntKind.wrap .i64 ((IntKind.wrap .i64 ((IntKind.wrap .i64 (2 * v9)) + 1)) + 1)) < (x20n : Int))) (fun k39 =>
            nn a0 fun p40 =>
            k39 p40 (World.drew w2)) ⟨0, 0, none⟩ (World.drew w2) fun x41 _ =>
          gd (α := (Option Addr × Nat × Nat)) (decide ((IntKind.wrap .i64 ((IntKind.wrap .i64 ((IntKind.wrap .i64 (2 * v9)) + 1)) + 1)) < (x20n : Int))) (fun k42 =>
            ldC (World.drew w2) (x41.add 0) fun x43 x43n x43c =>
            k42 (x43, x43n, x43c) (World.drew w2)) (none, 0, 0) (World.drew w2) fun x44 _ =>
          gd (α := Addr) (decide ((IntKind.wrap .i64 ((IntKind.wrap .i64 ((IntKind.wrap .i64 (2 * v9)) + 1)) + 1)) < (x20n : Int))) (fun k45 =>
            ixA x44.1 x44.2.1 (IntKind.wrap .i64 ((IntKind.wrap .i64 (2 * v9)) + 1)) 1 fun p46 =>
            k45 p46 (World.drew w2)) ⟨0, 0, none⟩ (World.drew w2) fun x47 _ =>
          gd (α := Int) (decide ((IntKind.wrap .i64 ((IntKind.wrap .i64 ((IntKind.wrap .i64 (2 * v9)) + 1)) + 1)) < (x20n : Int))) (fun k48 =>
            ldI .i64 (World.drew w2) x47 fun x49 =>
            k48 x49 (World.drew w2)) 0 (World.drew w2) fun x50 _ =>
          gd (α := Bool) (decide ((IntKind.wrap .i64 ((IntKind.wrap .i64 ((IntKind.wrap .i64 (2 * v9)) + 1)) + 1)) < (x20n : Int))) (fun k51 =>
            clF Try.prog (x26) [.int .i64 x38, .int .i64 x50] (World.drew w2) fun e53 w4 => ∃ x52 : Bool, e53 = Ending.returned (.bool x52) ∧
            k51 x52 w4) false (World.drew w2) fun x54 w5 =>
          pif (cond (decide ((IntKind.wrap .i64 ((IntKind.wrap .i64 ((IntKind.wrap .i64 (2 * v9)) + 1)) + 1)) < (x20n : Int))) x54 false) (
            k17 ((IntKind.wrap .i64 ((IntKind.wrap .i64 ((IntKind.wrap .i64 (2 * v9)) + 1)) + 1)), ()) w5) (
            k17 ((IntKind.wrap .i64 ((IntKind.wrap .i64 (2 * v9)) + 1)), ()) w5)) fun s18 w3 => match s18 with
        | (v16, _) =>
        nn a0 fun p56 =>
        ldV (World.drew w3) (p56.add 2) fun x57 =>
        nn a0 fun p58 =>
        ldC (World.drew w3) (p58.add 0) fun x59 x59n x59c =>
        ixA x59 x59n v16 1 fun p60 =>
        ldI .i64 (World.drew w3) p60 fun x61 =>
        clF Try.prog (x57) [.int .i64 x61, .int .i64 x5] (World.drew w3) fun e63 w6 => ∃ x62 : Bool, e63 = Ending.returned (.bool x62) ∧
        pif (!x62) (
          k7 (v9, ()) w6) (
          nn a0 fun p65 =>
          ldC w6 (p65.add 0) fun x66 x66n x66c =>
          ixA x66 x66n v16 1 fun p67 =>
          ldI .i64 w6 p67 fun x68 =>
          cl Try.prog 28 [.pointer a0, .int .i64 v9, .int .i64 x68] w6 fun e69 w7 => e69 = Ending.returned (.tuple #[]) ∧
          k10 (v16, ()) w7))) (a1, ()) w) fun s8 w1 => match s8 with
  | (v6, _) =>
  cl Try.prog 28 [.pointer a0, .int .i64 v6, .int .i64 x5] w1 fun e72 w8 => e72 = Ending.returned (.tuple #[]) ∧
  R (.tuple #[]) w8
def An51 : An := .seq (.leaf) (.seq (.join [(1, .one (.int .i64))] (.blk (.loop [(1, .one (.int .i64))] (.blk (.seq (.leaf) (.seq (.seq (.leaf) (.cond (.leaf) (.leaf))) (.seq (.join [(5, .one (.int .i64))] (.seq (.draw [0, 1, 0, 4, 12, 28, 60, 127, 255, 511, 1023, 2047, 4095, 511, 8703, 25087, 57855, 511, 131583, 516607, 1040895, 511, 2097663, 6291967, 14680575, 511, 65012223, 132121087, 268435455, 536870911]) (.cond (.leaf) (.leaf)))) (.seq (.seq (.draw [0, 1, 3, 7, 0, 16, 48, 112, 0, 496, 1008, 0, 4095, 8191]) (.cond (.leaf) (.leaf))) (.seq (.leaf) (.leaf)))))))))) (.leaf))
theorem V51_eq (a0 : Option Addr) (a1 : Int) (w : World) (R : Value → World → Prop) : evF Try.prog Try.f51 An51 [.pointer a0, .int .i64 a1] w R = V51 a0 a1 w R := by kernel_rfl
theorem V51_calls (a0 : Option Addr) (a1 : Int) (w : World) (R : Value → World → Prop) (h : V51 a0 a1 w R) : Calls Try.prog 51 #[.pointer a0, .int .i64 a1] w fun e w' => ∃ v, e = .returned v ∧ R v w' :=
  calls_of_ev (args := [.pointer a0, .int .i64 a1]) Try.func51 (Nat.le_of_ble_eq_true (by kernel_rfl)) (by rw [V51_eq]; exact h)
theorem ok51 : fnOk Try.prog 51 = true := by kernel_rfl

/-! (*depot/heat.Heat).warmer -/
def V27 (a0 : Option Addr) (a1 : Int) (a2 : Int) (w : World) (R : Value → World → Prop) : Prop :=
  nn a0 fun p2 =>
  ldC (World.drew w) (p2.add 0) fun x3 x3n x3c =>
  ixA x3 x3n (IntKind.wrap .i64 (a1 - 1)) 1 fun p4 =>
  ldF .f64 (World.drew w) p4 fun x5 =>
  nn a0 fun p6 =>
  ldC (World.drew w) (p6.add 0) fun x7 x7n x7c =>
  ixA x7 x7n (IntKind.wrap .i64 (a2 - 1)) 1 fun p8 =>
  ldF .f64 (World.drew w) p8 fun x9 =>
  R (.bool (cond ((FloatKind.format .f64).order x5 x9 == some .gt) true (cond ((FloatKind.format .f64).order x5 x9 == some .eq) (decide (a1 < a2)) false))) (World.drew w)
def An27 : An := .seq (.leaf) (.seq (.draw [0, 1, 3, 7, 0, 16, 63, 127, 0, 256, 768, 1792, 0, 4096, 16128, 32512, 255, 131071]) (.seq (.leaf) (.leaf)))
theorem V27_eq (a0 : Option Addr) (a1 : Int) (a2 : Int) (w : World) (R : Value → World → Prop) : evF Try.prog Try.f27 An27 [.pointer a0, .int .i64 a1, .int .i64 a2] w R = V27 a0 a1 a2 w R := by kernel_rfl
theorem V27_calls (a0 : Option Addr) (a1 : Int) (a2 : Int) (w : World) (R : Value → World → Prop) (h : V27 a0 a1 a2 w R) : Calls Try.prog 27 #[.pointer a0, .int .i64 a1, .int .i64 a2] w fun e w' => ∃ v, e = .returned v ∧ R v w' :=
  calls_of_ev (args := [.pointer a0, .int .i64 a1, .int .i64 a2]) Try.func27 (Nat.le_of_ble_eq_true (by kernel_rfl)) (by rw [V27_eq]; exact h)
theorem ok27 : fnOk Try.prog 27 = true := by kernel_rfl

end Go.Proofs.Ytfifgopmegbifaa.T
