/- The conditions under which the functions printed here return, as propositions over typed values; each is the machine's own, by the generator's theorem. -/
import Derived.Test.YtjpblaenebodlaaProg
import Derived.Test.YtjpblaenebodlaaMVcL
set_option linter.unusedVariables false
set_option maxRecDepth 100000
namespace Go.Proofs.Ytjpblaenebodlaa.T
open Go Go.Proofs.Ytjpblaenebodlaa.Vc
/-! depot/depotref00.CopyFormula -/
def V11 (a0_0 : Int) (a0_1 : Option Addr) (a0_1n : Nat) (a0_1c : Nat) (w : World) (R : Value → World → Prop) : Prop :=
  alc w [.int .i64 a0_0, .slice a0_1 a0_1n a0_1c] 28 fun b2 w1 =>
  alc w1 [.int .i64 0, .slice none 0 0] 28 fun b3 w2 =>
  ldC w2 ((⟨b2, 0, none⟩ : Addr).add 1) fun x5 x5n x5c =>
  cl Try.prog 31 [.slice x5 x5n x5c] w2 fun e7 w3 => ∃ (x6 : Option Addr) (x6n x6c : Nat), e7 = Ending.returned (.slice x6 x6n x6c) ∧
  ldI .i64 w3 ((⟨b2, 0, none⟩ : Addr).add 0) fun x9 =>
  st w3 ((⟨b3, 0, none⟩ : Addr).add 0) (.int .i64 x9) fun w4 =>
  st w4 ((⟨b3, 0, none⟩ : Addr).add 1) (.slice x6 x6n x6c) fun w5 =>
  ldI .i64 w5 ((⟨b3, 0, none⟩ : Addr).add 0) fun x10 =>
  ldC w5 ((⟨b3, 0, none⟩ : Addr).add 1) fun x11 x11n x11c =>
  R (.agg #[.int .i64 x10, .slice x11 x11n x11c]) w5
def An11 : An := .seq (.leaf) (.seq (.leaf) (.seq (.leaf) (.leaf)))
theorem V11_eq (a0_0 : Int) (a0_1 : Option Addr) (a0_1n : Nat) (a0_1c : Nat) (w : World) (R : Value → World → Prop) : evF Try.prog Try.f11 An11 [.agg #[.int .i64 a0_0, .slice a0_1 a0_1n a0_1c]] w R = V11 a0_0 a0_1 a0_1n a0_1c w R := by kernel_rfl
theorem V11_calls (a0_0 : Int) (a0_1 : Option Addr) (a0_1n : Nat) (a0_1c : Nat) (w : World) (R : Value → World → Prop) (h : V11 a0_0 a0_1 a0_1n a0_1c w R) : Calls Try.prog 11 #[.agg #[.int .i64 a0_0, .slice a0_1 a0_1n a0_1c]] w fun e w' => ∃ v, e = .returned v ∧ R v w' :=
  calls_of_ev (args := [.agg #[.int .i64 a0_0, .slice a0_1 a0_1n a0_1c]]) Try.func11 (Nat.le_of_ble_eq_true (by kernel_rfl)) (by rw [V11_eq]; exact h)
theorem ok11 : fnOk Try.prog 11 = true := by kernel_rfl

/-! depot/depotref00.CopyInts -/
def V13 (a0 : Option Addr) (a0n : Nat) (a0c : Nat) (w : World) (R : Value → World → Prop) : Prop :=
  lp (σ := (Option Addr × Nat × Nat) × Int × Unit) (fun s7 w1 k6 => match s7 with
    | ((v4, v4n, v4c), v5, _) =>
    pif (decide (v5 < (a0n : Int))) (
      ixA a0 a0n v5 1 fun p10 =>
      ldI .i64 w1 p10 fun x11 =>
      alc w1 [.int .i64 x11] 3 fun b12 w2 =>
      ∃ (x13 : Option Addr) (x13n x13c : Nat), ∃ w3 : World, (Builtin.append_ #[29, 29] 29 #[.slice v4 v4n v4c, .slice (some (⟨b12, 0, none⟩ : Addr)) 1 1]).run Try.prog w2 = .ok (.slice x13 x13n x13c) w3 ∧
      k6 ((x13, x13n, x13c), (IntKind.wrap .i64 (v5 + 1)), ()) w3) (
      R (.slice v4 v4n v4c) w1)) ((none, 0, 0), 0, ()) w
def An13 : An := .seq (.leaf) (.seq (.leaf) (.seq (.seq (.leaf) (.blk (.loop [(3, .one (.slc)), (4, .one (.int .i64))] (.seq (.seq (.leaf) (.cond (.leaf) (.leaf))) (.seq (.blk (.leaf)) (.leaf)))))) (.seq (.leaf) (.leaf))))
theorem V13_eq (a0 : Option Addr) (a0n : Nat) (a0c : Nat) (w : World) (R : Value → World → Prop) : evF Try.prog Try.f13 An13 [.slice a0 a0n a0c] w R = V13 a0 a0n a0c w R := by kernel_rfl
theorem V13_calls (a0 : Option Addr) (a0n : Nat) (a0c : Nat) (w : World) (R : Value → World → Prop) (h : V13 a0 a0n a0c w R) : Calls Try.prog 13 #[.slice a0 a0n a0c] w fun e w' => ∃ v, e = .returned v ∧ R v w' :=
  calls_of_ev (args := [.slice a0 a0n a0c]) Try.func13 (Nat.le_of_ble_eq_true (by kernel_rfl)) (by rw [V13_eq]; exact h)
theorem ok13 : fnOk Try.prog 13 = true := by kernel_rfl

/-! depot/depotref00.SameInts -/
def V16 (a0 : Option Addr) (a0n : Nat) (a0c : Nat) (a1 : Option Addr) (a1n : Nat) (a1c : Nat) (w : World) (R : Value → World → Prop) : Prop :=
  pif ((a0n : Int) != (a1n : Int)) (
    R (.bool false) w) (
    lp (σ := Int × Unit) (fun s7 w1 k6 => match s7 with
      | (v5, _) =>
      pif (decide (v5 < (a0n : Int))) (
        ixA a0 a0n v5 1 fun p9 =>
        ldI .i64 (World.drew w1) p9 fun x10 =>
        ixA a1 a1n v5 1 fun p11 =>
        ldI .i64 (World.drew w1) p11 fun x12 =>
        pif (x10 != x12) (
          R (.bool false) (World.drew w1)) (
          k6 ((IntKind.wrap .i64 (v5 + 1)), ()) (World.drew w1))) (
        R (.bool true) w1)) (0, ()) w)
def An16 : An := .seq (.leaf) (.seq (.seq (.leaf) (.cond (.seq (.leaf) (.leaf)) (.leaf))) (.seq (.seq (.leaf) (.blk (.loop [(5, .one (.int .i64))] (.seq (.seq (.leaf) (.cond (.leaf) (.leaf))) (.seq (.blk (.seq (.draw [0, 0, 3, 7, 0, 0, 48, 112, 255]) (.cond (.seq (.leaf) (.leaf)) (.leaf)))) (.leaf)))))) (.seq (.leaf) (.leaf))))
theorem V16_eq (a0 : Option Addr) (a0n : Nat) (a0c : Nat) (a1 : Option Addr) (a1n : Nat) (a1c : Nat) (w : World) (R : Value → World → Prop) : evF Try.prog Try.f16 An16 [.slice a0 a0n a0c, .slice a1 a1n a1c] w R = V16 a0 a0n a0c a1 a1n a1c w R := by kernel_rfl
theorem V16_calls (a0 : Option Addr) (a0n : Nat) (a0c : Nat) (a1 : Option Addr) (a1n : Nat) (a1c : Nat) (w : World) (R : Value → World → Prop) (h : V16 a0 a0n a0c a1 a1n a1c w R) : Calls Try.prog 16 #[.slice a0 a0n a0c, .slice a1 a1n a1c] w fun e w' => ∃ v, e = .returned v ∧ R v w' :=
  calls_of_ev (args := [.slice a0 a0n a0c, .slice a1 a1n a1c]) Try.func16 (Nat.le_of_ble_eq_true (by kernel_rfl)) (by rw [V16_eq]; exact h)
theorem ok16 : fnOk Try.prog 16 = true := by kernel_rfl

/-! depot/depotref00.CopyClauses -/
def V31 (a0 : Option Addr) (a0n : Nat) (a0c : Nat) (w : World) (R : Value → World → Prop) : Prop :=
  lp (σ := (Option Addr × Nat × Nat) × Int × Unit) (fun s7 w1 k6 => match s7 with
    | ((v4, v4n, v4c), v5, _) =>
    pif (decide (v5 < (a0n : Int))) (
      ixA a0 a0n v5 1 fun p10 =>
      ldC w1 p10 fun x11 x11n x11c =>
      cl Try.prog 13 [.slice x11 x11n x11c] w1 fun e13 w2 => ∃ (x12 : Option Addr) (x12n x12c : Nat), e13 = Ending.returned (.slice x12 x12n x12c) ∧
      alc w2 [.slice x12 x12n x12c] 29 fun b15 w3 =>
      ∃ (x16 : Option Addr) (x16n x16c : Nat), ∃ w4 : World, (Builtin.append_ #[26, 26] 26 #[.slice v4 v4n v4c, .slice (some (⟨b15, 0, none⟩ : Addr)) 1 1]).run Try.prog w3 = .ok (.slice x16 x16n x16c) w4 ∧
      k6 ((x16, x16n, x16c), (IntKind.wrap .i64 (v5 + 1)), ()) w4) (
      R (.slice v4 v4n v4c) w1)) ((none, 0, 0), 0, ()) w
def An31 : An := .seq (.leaf) (.seq (.leaf) (.seq (.seq (.leaf) (.blk (.loop [(3, .one (.slc)), (4, .one (.int .i64))] (.seq (.seq (.leaf) (.cond (.leaf) (.leaf))) (.seq (.blk (.seq (.leaf) (.leaf))) (.leaf)))))) (.seq (.leaf) (.leaf))))
theorem V31_eq (a0 : Option Addr) (a0n : Nat) (a0c : Nat) (w : World) (R : Value → World → Prop) : evF Try.prog Try.f31 An31 [.slice a0 a0n a0c] w R = V31 a0 a0n a0c w R := by kernel_rfl
theorem V31_calls (a0 : Option Addr) (a0n : Nat) (a0c : Nat) (w : World) (R : Value → World → Prop) (h : V31 a0 a0n a0c w R) : Calls Try.prog 31 #[.slice a0 a0n a0c] w fun e w' => ∃ v, e = .returned v ∧ R v w' :=
  calls_of_ev (args := [.slice a0 a0n a0c]) Try.func31 (Nat.le_of_ble_eq_true (by kernel_rfl)) (by rw [V31_eq]; exact h)
theorem ok31 : fnOk Try.prog 31 = true := by kernel_rfl

/-! depot/depotref07.New -/
def V32 (a0_0 : Int) (a0_1 : Option Addr) (a0_1n : Nat) (a0_1c : Nat) (w : World) (R : Value → World → Prop) : Prop :=
  alc w [.int .i64 a0_0, .slice a0_1 a0_1n a0_1c] 28 fun b2 w1 =>
  ldI .i64 w1 ((⟨b2, 0, none⟩ : Addr).add 0) fun x4 =>
  ldC w1 ((⟨b2, 0, none⟩ : Addr).add 1) fun x5 x5n x5c =>
  cl Try.prog 50 [.agg #[.int .i64 x4, .slice x5 x5n x5c]] w1 fun e7 w2 => ∃ x6 : Bool, e7 = Ending.returned (.bool x6) ∧
  pif (!x6) (
    R (.tuple #[.pointer none, .int .i64 1]) w2) (
    ldI .i64 w2 ((⟨b2, 0, none⟩ : Addr).add 0) fun x10 =>
    ldC w2 ((⟨b2, 0, none⟩ : Addr).add 1) fun x11 x11n x11c =>
    cl Try.prog 11 [.agg #[.int .i64 x10, .slice x11 x11n x11c]] w2 fun e14 w3 => ∃ x12 : Int, ∃ (x13 : Option Addr) (x13n x13c : Nat), e14 = Ending.returned (.agg #[.int .i64 x12, .slice x13 x13n x13c]) ∧
    alc w3 [.slice none 0 0] 29 fun b15 w4 =>
    alc w4 [.int .i64 x12, .slice x13 x13n x13c, .slice (some (⟨b15, 0, none⟩ : Addr)) 1 1, .bool false, .bool false] 83 fun b16 w5 =>
    R (.tuple #[.pointer (some (⟨b16, 0, none⟩ : Addr)), .int .i64 0]) w5)
def An32 : An := .seq (.leaf) (.seq (.seq (.leaf) (.cond (.seq (.leaf) (.leaf)) (.leaf))) (.seq (.leaf) (.leaf)))
theorem V32_eq (a0_0 : Int) (a0_1 : Option Addr) (a0_1n : Nat) (a0_1c : Nat) (w : World) (R : Value → World → Prop) : evF Try.prog Try.f32 An32 [.agg #[.int .i64 a0_0, .slice a0_1 a0_1n a0_1c]] w R = V32 a0_0 a0_1 a0_1n a0_1c w R := by kernel_rfl
theorem V32_calls (a0_0 : Int) (a0_1 : Option Addr) (a0_1n : Nat) (a0_1c : Nat) (w : World) (R : Value → World → Prop) (h : V32 a0_0 a0_1 a0_1n a0_1c w R) : Calls Try.prog 32 #[.agg #[.int .i64 a0_0, .slice a0_1 a0_1n a0_1c]] w fun e w' => ∃ v, e = .returned v ∧ R v w' :=
  calls_of_ev (args := [.agg #[.int .i64 a0_0, .slice a0_1 a0_1n a0_1c]]) Try.func32 (Nat.le_of_ble_eq_true (by kernel_rfl)) (by rw [V32_eq]; exact h)
theorem ok32 : fnOk Try.prog 32 = true := by kernel_rfl

/-! (*depot/depotref07.Watch).Add -/
def V33 (a0 : Option Addr) (a1 : Option Addr) (a1n : Nat) (a1c : Nat) (w : World) (R : Value → World → Prop) : Prop :=
  cl Try.prog 51 [.pointer a0, .slice a1 a1n a1c] w fun e4 w1 => ∃ x3 : Bool, e4 = Ending.returned (.bool x3) ∧
  pif (!x3) (
    R (.int .i64 1) w1) (
    nn a0 fun p6 =>
    ldC (World.drew w1) ((p6.add 0).add 1) fun x7 x7n x7c =>
    cl Try.prog 13 [.slice a1 a1n a1c] (World.drew w1) fun e9 w2 => ∃ (x8 : Option Addr) (x8n x8c : Nat), e9 = Ending.returned (.slice x8 x8n x8c) ∧
    (
      ldC w2 ((p6.add 0).add 1) fun x10 x10n x10c =>
      ((.slice x10 x10n x10c : Value) = .slice x7 x7n x7c)) ∧
    alc w2 [.slice x8 x8n x8c] 29 fun b11 w3 =>
    (
      ldC w3 ((p6.add 0).add 1) fun x12 x12n x12c =>
      ((.slice x12 x12n x12c : Value) = .slice x7 x7n x7c)) ∧
    ∃ (x13 : Option Addr) (x13n x13c : Nat), ∃ w4 : World, (Builtin.append_ #[26, 26] 26 #[.slice x7 x7n x7c, .slice (some (⟨b11, 0, none⟩ : Addr)) 1 1]).run Try.prog w3 = .ok (.slice x13 x13n x13c) w4 ∧
    nn a0 fun p14 =>
    st w4 (((p14.add 0).add 1).add 0) (.slice x13 x13n x13c) fun w5 =>
    nn a0 fun p16 =>
    st w5 ((p16.add 3).add 0) (.bool false) fun w6 =>
    R (.int .i64 0) w6)
def An33 : An := .seq (.leaf) (.seq (.seq (.leaf) (.cond (.seq (.leaf) (.leaf)) (.leaf))) (.seq (.draw [0, 0, 2, 6, 14, 30, 0, 64, 192, 510, 1023, 2047, 4095, 8191]) (.seq (.leaf) (.seq (.leaf) (.leaf)))))
theorem V33_eq (a0 : Option Addr) (a1 : Option Addr) (a1n : Nat) (a1c : Nat) (w : World) (R : Value → World → Prop) : evF Try.prog Try.f33 An33 [.pointer a0, .slice a1 a1n a1c] w R = V33 a0 a1 a1n a1c w R := by kernel_rfl
theorem V33_calls (a0 : Option Addr) (a1 : Option Addr) (a1n : Nat) (a1c : Nat) (w : World) (R : Value → World → Prop) (h : V33 a0 a1 a1n a1c w R) : Calls Try.prog 33 #[.pointer a0, .slice a1 a1n a1c] w fun e w' => ∃ v, e = .returned v ∧ R v w' :=
  calls_of_ev (args := [.pointer a0, .slice a1 a1n a1c]) Try.func33 (Nat.le_of_ble_eq_true (by kernel_rfl)) (by rw [V33_eq]; exact h)
theorem ok33 : fnOk Try.prog 33 = true := by kernel_rfl

/-! (*depot/depotref07.Watch).Assume -/
def V34 (a0 : Option Addr) (a1 : Int) (w : World) (R : Value → World → Prop) : Prop :=
  alc w [.int .i64 a1] 3 fun b3 w1 =>
  cl Try.prog 51 [.pointer a0, .slice (some (⟨b3, 0, none⟩ : Addr)) 1 1] w1 fun e5 w2 => ∃ x4 : Bool, e5 = Ending.returned (.bool x4) ∧
  pif (!x4) (
    R (.int .i64 1) w2) (
    nn a0 fun p8 =>
    ldB w2 (p8.add 3) fun x9 =>
    pif (!x9) (
      R (.int .i64 3) w2) (
      cl Try.prog 52 [.pointer a0] w2 fun e13 w3 => ∃ (x12 : Option Addr) (x12n x12c : Nat), e13 = Ending.returned (.slice x12 x12n x12c) ∧
      cl Try.prog 53 [.slice x12 x12n x12c, .int .i64 a1] w3 fun e16 w4 => ∃ x15 : Bool, e16 = Ending.returned (.bool x15) ∧
      gd (α := Bool) (!x15) (fun k17 =>
        cl Try.prog 53 [.slice x12 x12n x12c, .int .i64 (IntKind.wrap .i64 (0 - a1))] w4 fun e19 w5 => ∃ x18 : Bool, e19 = Ending.returned (.bool x18) ∧
        k17 x18 w5) false w4 fun x20 w6 =>
      pif (cond x15 true x20) (
        R (.int .i64 50) w6) (
        nn a0 fun p23 =>
        ldC w6 (p23.add 2) fun x24 x24n x24c =>
        alc w6 [.int .i64 a1] 3 fun b25 w7 =>
        alc w7 [.slice (some (⟨b25, 0, none⟩ : Addr)) 1 1] 29 fun b26 w8 =>
        ∃ (x27 : Option Addr) (x27n x27c : Nat), ∃ w9 : World, (Builtin.append_ #[26, 26] 26 #[.slice x24 x24n x24c, .slice (some (⟨b26, 0, none⟩ : Addr)) 1 1]).run Try.prog w8 = .ok (.slice x27 x27n x27c) w9 ∧
        nn a0 fun p28 =>
        st w9 ((p28.add 2).add 0) (.slice x27 x27n x27c) fun w10 =>
        nn a0 fun p30 =>
        st w10 ((p30.add 3).add 0) (.bool false) fun w11 =>
        R (.int .i64 0) w11)))
def An34 : An := .seq (.leaf) (.seq (.seq (.leaf) (.cond (.seq (.leaf) (.leaf)) (.leaf))) (.seq (.seq (.leaf) (.cond (.seq (.leaf) (.leaf)) (.leaf))) (.seq (.leaf) (.seq (.seq (.leaf) (.cond (.seq (.leaf) (.leaf)) (.leaf))) (.seq (.leaf) (.seq (.leaf) (.seq (.leaf) (.leaf))))))))
theorem V34_eq (a0 : Option Addr) (a1 : Int) (w : World) (R : Value → World → Prop) : evF Try.prog Try.f34 An34 [.pointer a0, .int .i64 a1] w R = V34 a0 a1 w R := by kernel_rfl
theorem V34_calls (a0 : Option Addr) (a1 : Int) (w : World) (R : Value → World → Prop) (h : V34 a0 a1 w R) : Calls Try.prog 34 #[.pointer a0, .int .i64 a1] w fun e w' => ∃ v, e = .returned v ∧ R v w' :=
  calls_of_ev (args := [.pointer a0, .int .i64 a1]) Try.func34 (Nat.le_of_ble_eq_true (by kernel_rfl)) (by rw [V34_eq]; exact h)
theorem ok34 : fnOk Try.prog 34 = true := by kernel_rfl

/-! (*depot/depotref07.Watch).Run -/
def V35 (a0 : Option Addr) (w : World) (R : Value → World → Prop) : Prop :=
  cl Try.prog 52 [.pointer a0] w fun e4 w1 => ∃ (x3 : Option Addr) (x3n x3c : Nat), e4 = Ending.returned (.slice x3 x3n x3c) ∧
  nn a0 fun p6 =>
  ldI .i64 w1 ((p6.add 0).add 0) fun x7 =>
  ldC w1 ((p6.add 0).add 1) fun x8 x8n x8c =>
  cl Try.prog 54 [.agg #[.int .i64 x7, .slice x8 x8n x8c], .slice x3 x3n x3c] w1 fun e12 w2 => ∃ (x9 : Option Addr) (x9n x9c : Nat), ∃ x10 : Bool, ∃ x11 : Int, e12 = Ending.returned (.tuple #[.slice x9 x9n x9c, .bool x10, .int .i64 x11]) ∧
  nn a0 fun p14 =>
  st w2 ((p14.add 4).add 0) (.bool x10) fun w3 =>
  nn a0 fun p16 =>
  st w3 ((p16.add 3).add 0) (.bool (!x10)) fun w4 =>
  pif x10 (
    R (.bool false) w4) (
    nn a0 fun p20 =>
    ldC w4 (p20.add 2) fun x21 x21n x21c =>
    nn a0 fun p23 =>
    ldC w4 (p23.add 2) fun x24 x24n x24c =>
    ixA x24 x24n (IntKind.wrap .i64 ((x21n : Int) - 1)) 1 fun p25 =>
    ldC w4 p25 fun x26 x26n x26c =>
    cl Try.prog 13 [.slice x26 x26n x26c] w4 fun e28 w5 => ∃ (x27 : Option Addr) (x27n x27c : Nat), e28 = Ending.returned (.slice x27 x27n x27c) ∧
    lp (σ := (Option Addr × Nat × Nat) × Int × Unit) (fun s33 w6 k32 => match s33 with
      | ((v30, v30n, v30c), v31, _) =>
      pif (decide (v31 < (x9n : Int))) (
        jn (σ := (Option Addr × Nat × Nat) × Unit) (fun k36 =>
          ixA x9 x9n v31 1 fun p39 =>
          ldI .i64 w6 p39 fun x40 =>
          cl Try.prog 53 [.slice x3 x3n x3c, .int .i64 x40] w6 fun e42 w8 => ∃ x41 : Bool, e42 = Ending.returned (.bool x41) ∧
          pif (!x41) (
            ixA x9 x9n v31 1 fun p44 =>
            ldI .i64 w8 p44 fun x45 =>
            alc w8 [.int .i64 x45] 3 fun b46 w9 =>
            ∃ (x47 : Option Addr) (x47n x47c : Nat), ∃ w10 : World, (Builtin.append_ #[29, 29] 29 #[.slice v30 v30n v30c, .slice (some (⟨b46, 0, none⟩ : Addr)) 1 1]).run Try.prog w9 = .ok (.slice x47 x47n x47c) w10 ∧
            k36 ((x47, x47n, x47c), ()) w10) (
            k36 ((v30, v30n, v30c), ()) w8)) fun s37 w7 => match s37 with
        | ((v35, v35n, v35c), _) =>
        k32 ((v35, v35n, v35c), (IntKind.wrap .i64 (v31 + 1)), ()) w7) (
        nn a0 fun p50 =>
        ldC w6 (p50.add 2) fun x51 x51n x51c =>
        ixA x51 x51n (IntKind.wrap .i64 ((x21n : Int) - 1)) 1 fun p52 =>
        st w6 (p52.add 0) (.slice v30 v30n v30c) fun w11 =>
        R (.bool true) w11)) ((x27, x27n, x27c), 0, ()) w5)
def An35 : An := .seq (.leaf) (.seq (.leaf) (.seq (.leaf) (.seq (.leaf) (.seq (.leaf) (.seq (.seq (.leaf) (.cond (.seq (.leaf) (.leaf)) (.leaf))) (.seq (.leaf) (.seq (.leaf) (.seq (.seq (.leaf) (.blk (.loop [(8, .one (.slc)), (9, .one (.int .i64))] (.seq (.seq (.leaf) (.cond (.leaf) (.leaf))) (.seq (.join [(8, .one (.slc))] (.blk (.seq (.leaf) (.cond (.leaf) (.leaf))))) (.leaf)))))) (.seq (.leaf) (.seq (.leaf) (.leaf)))))))))))
theorem V35_eq (a0 : Option Addr) (w : World) (R : Value → World → Prop) : evF Try.prog Try.f35 An35 [.pointer a0] w R = V35 a0 w R := by kernel_rfl
theorem V35_calls (a0 : Option Addr) (w : World) (R : Value → World → Prop) (h : V35 a0 w R) : Calls Try.prog 35 #[.pointer a0] w fun e w' => ∃ v, e = .returned v ∧ R v w' :=
  calls_of_ev (args := [.pointer a0]) Try.func35 (Nat.le_of_ble_eq_true (by kernel_rfl)) (by rw [V35_eq]; exact h)
theorem ok35 : fnOk Try.prog 35 = true := by kernel_rfl

/-! (*depot/depotref07.Watch).Undo -/
def V36 (a0 : Option Addr) (w : World) (R : Value → World → Prop) : Prop :=
  nn a0 fun p3 =>
  ldC w (p3.add 2) fun x4 x4n x4c =>
  pif ((x4n : Int) == 1) (
    R (.int .i64 3) w) (
    nn a0 fun p6 =>
    ldC (World.drew w) (p6.add 2) fun x7 x7n x7c =>
    nn a0 fun p8 =>
    ldC (World.drew w) (p8.add 2) fun x9 x9n x9c =>
    (0 : Int) ≤ (IntKind.wrap .i64 ((x9n : Int) - 1)) ∧ (IntKind.wrap .i64 ((x9n : Int) - 1)) ≤ (x7c : Int) ∧
    nn a0 fun p10 =>
    st (World.drew w) ((p10.add 2).add 0) (.slice (slA x7 x7c 0 1) ((Int.toNat (IntKind.wrap .i64 ((x9n : Int) - 1))) - 0) (x7c - 0)) fun w1 =>
    nn a0 fun p12 =>
    st w1 ((p12.add 3).add 0) (.bool false) fun w2 =>
    R (.int .i64 0) w2)
def An36 : An := .seq (.leaf) (.seq (.seq (.leaf) (.cond (.seq (.leaf) (.leaf)) (.leaf))) (.seq (.draw [0, 0, 2, 6, 14, 0, 32, 96, 224, 480, 992, 2046, 4095, 8191, 16383]) (.seq (.leaf) (.seq (.leaf) (.leaf)))))
theorem V36_eq (a0 : Option Addr) (w : World) (R : Value → World → Prop) : evF Try.prog Try.f36 An36 [.pointer a0] w R = V36 a0 w R := by kernel_rfl
theorem V36_calls (a0 : Option Addr) (w : World) (R : Value → World → Prop) (h : V36 a0 w R) : Calls Try.prog 36 #[.pointer a0] w fun e w' => ∃ v, e = .returned v ∧ R v w' :=
  calls_of_ev (args := [.pointer a0]) Try.func36 (Nat.le_of_ble_eq_true (by kernel_rfl)) (by rw [V36_eq]; exact h)
theorem ok36 : fnOk Try.prog 36 = true := by kernel_rfl

/-! (*depot/depotref07.Watch).Lits -/
def V37 (a0 : Option Addr) (w : World) (R : Value → World → Prop) : Prop :=
  cl Try.prog 52 [.pointer a0] w fun e4 w1 => ∃ (x3 : Option Addr) (x3n x3c : Nat), e4 = Ending.returned (.slice x3 x3n x3c) ∧
  cl Try.prog 55 [.slice x3 x3n x3c] w1 fun e6 w2 => ∃ (x5 : Option Addr) (x5n x5c : Nat), e6 = Ending.returned (.slice x5 x5n x5c) ∧
  R (.slice x5 x5n x5c) w2
def An37 : An := .seq (.leaf) (.seq (.leaf) (.leaf))
theorem V37_eq (a0 : Option Addr) (w : World) (R : Value → World → Prop) : evF Try.prog Try.f37 An37 [.pointer a0] w R = V37 a0 w R := by kernel_rfl
theorem V37_calls (a0 : Option Addr) (w : World) (R : Value → World → Prop) (h : V37 a0 w R) : Calls Try.prog 37 #[.pointer a0] w fun e w' => ∃ v, e = .returned v ∧ R v w' :=
  calls_of_ev (args := [.pointer a0]) Try.func37 (Nat.le_of_ble_eq_true (by kernel_rfl)) (by rw [V37_eq]; exact h)
theorem ok37 : fnOk Try.prog 37 = true := by kernel_rfl

/-! (*depot/depotref07.Watch).Depth -/
def V38 (a0 : Option Addr) (w : World) (R : Value → World → Prop) : Prop :=
  nn a0 fun p3 =>
  ldC w (p3.add 2) fun x4 x4n x4c =>
  R (.int .i64 (IntKind.wrap .i64 ((x4n : Int) - 1))) w
def An38 : An := .seq (.leaf) (.seq (.leaf) (.leaf))
theorem V38_eq (a0 : Option Addr) (w : World) (R : Value → World → Prop) : evF Try.prog Try.f38 An38 [.pointer a0] w R = V38 a0 w R := by kernel_rfl
theorem V38_calls (a0 : Option Addr) (w : World) (R : Value → World → Prop) (h : V38 a0 w R) : Calls Try.prog 38 #[.pointer a0] w fun e w' => ∃ v, e = .returned v ∧ R v w' :=
  calls_of_ev (args := [.pointer a0]) Try.func38 (Nat.le_of_ble_eq_true (by kernel_rfl)) (by rw [V38_eq]; exact h)
theorem ok38 : fnOk Try.prog 38 = true := by kernel_rfl

/-! (*depot/depotref07.Watch).Clashes -/
def V39 (a0 : Option Addr) (w : World) (R : Value → World → Prop) : Prop :=
  nn a0 fun p3 =>
  ldB w (p3.add 4) fun x4 =>
  R (.bool x4) w
def An39 : An := .seq (.leaf) (.seq (.leaf) (.leaf))
theorem V39_eq (a0 : Option Addr) (w : World) (R : Value → World → Prop) : evF Try.prog Try.f39 An39 [.pointer a0] w R = V39 a0 w R := by kernel_rfl
theorem V39_calls (a0 : Option Addr) (w : World) (R : Value → World → Prop) (h : V39 a0 w R) : Calls Try.prog 39 #[.pointer a0] w fun e w' => ∃ v, e = .returned v ∧ R v w' :=
  calls_of_ev (args := [.pointer a0]) Try.func39 (Nat.le_of_ble_eq_true (by kernel_rfl)) (by rw [V39_eq]; exact h)
theorem ok39 : fnOk Try.prog 39 = true := by kernel_rfl

/-! depot/depotref02.Formed -/
def V50 (a0_0 : Int) (a0_1 : Option Addr) (a0_1n : Nat) (a0_1c : Nat) (w : World) (R : Value → World → Prop) : Prop :=
  alc w [.int .i64 a0_0, .slice a0_1 a0_1n a0_1c] 28 fun b2 w1 =>
  ldI .i64 w1 ((⟨b2, 0, none⟩ : Addr).add 0) fun x4 =>
  gd (α := Int) (!(decide (x4 < 0))) (fun k5 =>
    ldI .i64 w1 ((⟨b2, 0, none⟩ : Addr).add 0) fun x6 =>
    k5 x6 w1) 0 w1 fun x7 w2 =>
  pif (cond (decide (x4 < 0)) true (decide (x7 > 1048576))) (
    R (.bool false) w2) (
    lp (σ := Int × Unit) (fun s12 w3 k11 => match s12 with
      | (v10, _) =>
      ldC w3 ((⟨b2, 0, none⟩ : Addr).add 1) fun x14 x14n x14c =>
      pif (decide (v10 < (x14n : Int))) (
        ldC (World.drew w3) ((⟨b2, 0, none⟩ : Addr).add 1) fun x15 x15n x15c =>
        ixA x15 x15n v10 1 fun p16 =>
        ldC (World.drew w3) p16 fun x17 x17n x17c =>
        ldI .i64 (World.drew w3) ((⟨b2, 0, none⟩ : Addr).add 0) fun x18 =>
        cl Try.prog 64 [.slice x17 x17n x17c, .int .i64 x18] (World.drew w3) fun e20 w4 => ∃ x19 : Bool, e20 = Ending.returned (.bool x19) ∧
        pif (!x19) (
          R (.bool false) w4) (
          k11 ((IntKind.wrap .i64 (v10 + 1)), ()) w4)) (
        R (.bool true) w3)) (0, ()) w2)
def An50 : An := .seq (.leaf) (.seq (.seq (.leaf) (.cond (.seq (.leaf) (.leaf)) (.leaf))) (.seq (.seq (.leaf) (.blk (.loop [(3, .one (.int .i64))] (.seq (.seq (.leaf) (.cond (.leaf) (.leaf))) (.seq (.blk (.seq (.draw [0, 1, 0, 7, 15, 0, 32, 127, 255]) (.cond (.seq (.leaf) (.leaf)) (.leaf)))) (.leaf)))))) (.seq (.leaf) (.leaf))))
theorem V50_eq (a0_0 : Int) (a0_1 : Option Addr) (a0_1n : Nat) (a0_1c : Nat) (w : World) (R : Value → World → Prop) : evF Try.prog Try.f50 An50 [.agg #[.int .i64 a0_0, .slice a0_1 a0_1n a0_1c]] w R = V50 a0_0 a0_1 a0_1n a0_1c w R := by kernel_rfl
theorem V50_calls (a0_0 : Int) (a0_1 : Option Addr) (a0_1n : Nat) (a0_1c : Nat) (w : World) (R : Value → World → Prop) (h : V50 a0_0 a0_1 a0_1n a0_1c w R) : Calls Try.prog 50 #[.agg #[.int .i64 a0_0, .slice a0_1 a0_1n a0_1c]] w fun e w' => ∃ v, e = .returned v ∧ R v w' :=
  calls_of_ev (args := [.agg #[.int .i64 a0_0, .slice a0_1 a0_1n a0_1c]]) Try.func50 (Nat.le_of_ble_eq_true (by kernel_rfl)) (by rw [V50_eq]; exact h)
theorem ok50 : fnOk Try.prog 50 = true := by kernel_rfl

/-! (*depot/depotref07.Watch).within -/
def V51 (a0 : Option Addr) (a1 : Option Addr) (a1n : Nat) (a1c : Nat) (w : World) (R : Value → World → Prop) : Prop :=
  cl Try.prog 65 [.slice a1 a1n a1c] w fun e4 w1 => ∃ x3 : Bool, e4 = Ending.returned (.bool x3) ∧
  pif (!x3) (
    R (.bool false) w1) (
    lp (σ := Int × Unit) (fun s9 w2 k8 => match s9 with
      | (v7, _) =>
      pif (decide (v7 < (a1n : Int))) (
        ixA a1 a1n v7 1 fun p11 =>
        ldI .i64 (World.drew w2) p11 fun x12 =>
        nn a0 fun p13 =>
        ldI .i64 (World.drew w2) ((p13.add 0).add 0) fun x14 =>
        cl Try.prog 66 [.int .i64 x12] (World.drew w2) fun e16 w3 => ∃ x15 : Int, e16 = Ending.returned (.int .i64 x15) ∧
        (
          ldI .i64 w3 ((p13.add 0).add 0) fun x17 =>
          ((.int .i64 x17 : Value) = .int .i64 x14)) ∧
        pif (decide (x15 > x14)) (
          R (.bool false) w3) (
          k8 ((IntKind.wrap .i64 (v7 + 1)), ()) w3)) (
        R (.bool true) w2)) (0, ()) w1)
def An51 : An := .seq (.leaf) (.seq (.seq (.leaf) (.cond (.seq (.leaf) (.leaf)) (.leaf))) (.seq (.seq (.leaf) (.blk (.loop [(5, .one (.int .i64))] (.seq (.seq (.leaf) (.cond (.leaf) (.leaf))) (.seq (.blk (.seq (.draw [0, 0, 3, 7, 15, 0, 32, 96, 224, 480, 1023]) (.cond (.seq (.leaf) (.leaf)) (.leaf)))) (.leaf)))))) (.seq (.leaf) (.leaf))))
theorem V51_eq (a0 : Option Addr) (a1 : Option Addr) (a1n : Nat) (a1c : Nat) (w : World) (R : Value → World → Prop) : evF Try.prog Try.f51 An51 [.pointer a0, .slice a1 a1n a1c] w R = V51 a0 a1 a1n a1c w R := by kernel_rfl
theorem V51_calls (a0 : Option Addr) (a1 : Option Addr) (a1n : Nat) (a1c : Nat) (w : World) (R : Value → World → Prop) (h : V51 a0 a1 a1n a1c w R) : Calls Try.prog 51 #[.pointer a0, .slice a1 a1n a1c] w fun e w' => ∃ v, e = .returned v ∧ R v w' :=
  calls_of_ev (args := [.pointer a0, .slice a1 a1n a1c]) Try.func51 (Nat.le_of_ble_eq_true (by kernel_rfl)) (by rw [V51_eq]; exact h)
theorem ok51 : fnOk Try.prog 51 = true := by kernel_rfl

/-! (*depot/depotref07.Watch).known -/
def V52 (a0 : Option Addr) (w : World) (R : Value → World → Prop) : Prop :=
  lp (σ := (Option Addr × Nat × Nat) × Int × Unit) (fun s7 w1 k6 => match s7 with
    | ((v4, v4n, v4c), v5, _) =>
    nn a0 fun p9 =>
    ldC w1 (p9.add 2) fun x10 x10n x10c =>
    pif (decide (v5 < (x10n : Int))) (
      nn a0 fun p12 =>
      ldC w1 (p12.add 2) fun x13 x13n x13c =>
      ixA x13 x13n v5 1 fun p14 =>
      ldC w1 p14 fun x15 x15n x15c =>
      ∃ (x16 : Option Addr) (x16n x16c : Nat), ∃ w2 : World, (Builtin.append_ #[29, 29] 29 #[.slice v4 v4n v4c, .slice x15 x15n x15c]).run Try.prog w1 = .ok (.slice x16 x16n x16c) w2 ∧
      k6 ((x16, x16n, x16c), (IntKind.wrap .i64 (v5 + 1)), ()) w2) (
      R (.slice v4 v4n v4c) w1)) ((none, 0, 0), 0, ()) w
def An52 : An := .seq (.leaf) (.seq (.leaf) (.seq (.seq (.leaf) (.blk (.loop [(3, .one (.slc)), (4, .one (.int .i64))] (.seq (.seq (.leaf) (.cond (.leaf) (.leaf))) (.seq (.blk (.leaf)) (.leaf)))))) (.seq (.leaf) (.leaf))))
theorem V52_eq (a0 : Option Addr) (w : World) (R : Value → World → Prop) : evF Try.prog Try.f52 An52 [.pointer a0] w R = V52 a0 w R := by kernel_rfl
theorem V52_calls (a0 : Option Addr) (w : World) (R : Value → World → Prop) (h : V52 a0 w R) : Calls Try.prog 52 #[.pointer a0] w fun e w' => ∃ v, e = .returned v ∧ R v w' :=
  calls_of_ev (args := [.pointer a0]) Try.func52 (Nat.le_of_ble_eq_true (by kernel_rfl)) (by rw [V52_eq]; exact h)
theorem ok52 : fnOk Try.prog 52 = true := by kernel_rfl

/-! depot/depotref00.HasInt -/
def V53 (a0 : Option Addr) (a0n : Nat) (a0c : Nat) (a1 : Int) (w : World) (R : Value → World → Prop) : Prop :=
  lp (σ := Int × Unit) (fun s5 w1 k4 => match s5 with
    | (v3, _) =>
    pif (decide (v3 < (a0n : Int))) (
      ixA a0 a0n v3 1 fun p8 =>
      ldI .i64 w1 p8 fun x9 =>
      pif (x9 == a1) (
        R (.bool true) w1) (
        k4 ((IntKind.wrap .i64 (v3 + 1)), ()) w1)) (
      R (.bool false) w1)) (0, ()) w
def An53 : An := .seq (.leaf) (.seq (.seq (.leaf) (.blk (.loop [(5, .one (.int .i64))] (.seq (.seq (.leaf) (.cond (.leaf) (.leaf))) (.seq (.blk (.seq (.leaf) (.cond (.seq (.leaf) (.leaf)) (.leaf)))) (.leaf)))))) (.seq (.leaf) (.leaf)))
theorem V53_eq (a0 : Option Addr) (a0n : Nat) (a0c : Nat) (a1 : Int) (w : World) (R : Value → World → Prop) : evF Try.prog Try.f53 An53 [.slice a0 a0n a0c, .int .i64 a1] w R = V53 a0 a0n a0c a1 w R := by kernel_rfl
theorem V53_calls (a0 : Option Addr) (a0n : Nat) (a0c : Nat) (a1 : Int) (w : World) (R : Value → World → Prop) (h : V53 a0 a0n a0c a1 w R) : Calls Try.prog 53 #[.slice a0 a0n a0c, .int .i64 a1] w fun e w' => ∃ v, e = .returned v ∧ R v w' :=
  calls_of_ev (args := [.slice a0 a0n a0c, .int .i64 a1]) Try.func53 (Nat.le_of_ble_eq_true (by kernel_rfl)) (by rw [V53_eq]; exact h)
theorem ok53 : fnOk Try.prog 53 = true := by kernel_rfl

/-! depot/depotref06.Close -/
def V54 (a0_0 : Int) (a0_1 : Option Addr) (a0_1n : Nat) (a0_1c : Nat) (a1 : Option Addr) (a1n : Nat) (a1c : Nat) (w : World) (R : Value → World → Prop) : Prop :=
  alc w [.int .i64 a0_0, .slice a0_1 a0_1n a0_1c] 28 fun b2 w1 =>
  ldI .i64 w1 ((⟨b2, 0, none⟩ : Addr).add 0) fun x4 =>
  ldC w1 ((⟨b2, 0, none⟩ : Addr).add 1) fun x5 x5n x5c =>
  cl Try.prog 50 [.agg #[.int .i64 x4, .slice x5 x5n x5c]] w1 fun e7 w2 => ∃ x6 : Bool, e7 = Ending.returned (.bool x6) ∧
  gd (α := Bool) (!(!x6)) (fun k8 =>
    cl Try.prog 65 [.slice a1 a1n a1c] w2 fun e10 w3 => ∃ x9 : Bool, e10 = Ending.returned (.bool x9) ∧
    k8 x9 w3) false w2 fun x11 w4 =>
  pif (cond (!x6) true (!x11)) (
    R (.tuple #[.slice none 0 0, .bool false, .int .i64 1]) w4) (
    ldI .i64 w4 ((⟨b2, 0, none⟩ : Addr).add 0) fun x14 =>
    ldC w4 ((⟨b2, 0, none⟩ : Addr).add 1) fun x15 x15n x15c =>
    cl Try.prog 67 [.agg #[.int .i64 x14, .slice x15 x15n x15c], .slice a1 a1n a1c] w4 fun e18 w5 => ∃ (x16 : Option Addr) (x16n x16c : Nat), ∃ x17 : Bool, e18 = Ending.returned (.tuple #[.slice x16 x16n x16c, .bool x17]) ∧
    pif x17 (
      R (.tuple #[.slice none 0 0, .bool true, .int .i64 0]) w5) (
      lp (σ := (Option Addr × Nat × Nat) × Int × Unit) (fun s26 w6 k25 => match s26 with
        | ((v23, v23n, v23c), v24, _) =>
        pif (decide (v24 < (x16n : Int))) (
          jn (σ := (Option Addr × Nat × Nat) × Unit) (fun k29 =>
            ixA x16 x16n v24 1 fun p32 =>
            ldI .i64 w6 p32 fun x33 =>
            pif (x33 != 0) (
              ixA x16 x16n v24 1 fun p35 =>
              ldI .i64 w6 p35 fun x36 =>
              alc w6 [.int .i64 (IntKind.wrap .i64 (v24 * x36))] 3 fun b37 w8 =>
              ∃ (x38 : Option Addr) (x38n x38c : Nat), ∃ w9 : World, (Builtin.append_ #[29, 29] 29 #[.slice v23 v23n v23c, .slice (some (⟨b37, 0, none⟩ : Addr)) 1 1]).run Try.prog w8 = .ok (.slice x38 x38n x38c) w9 ∧
              k29 ((x38, x38n, x38c), ()) w9) (
              k29 ((v23, v23n, v23c), ()) w6)) fun s30 w7 => match s30 with
          | ((v28, v28n, v28c), _) =>
          k25 ((v28, v28n, v28c), (IntKind.wrap .i64 (v24 + 1)), ()) w7) (
          R (.tuple #[.slice v23 v23n v23c, .bool false, .int .i64 0]) w6)) ((none, 0, 0), 1, ()) w5))
def An54 : An := .seq (.leaf) (.seq (.seq (.leaf) (.cond (.seq (.leaf) (.leaf)) (.leaf))) (.seq (.leaf) (.seq (.seq (.leaf) (.cond (.seq (.leaf) (.leaf)) (.leaf))) (.seq (.leaf) (.seq (.seq (.leaf) (.blk (.loop [(9, .one (.slc)), (10, .one (.int .i64))] (.seq (.seq (.leaf) (.cond (.leaf) (.leaf))) (.seq (.join [(9, .one (.slc))] (.blk (.seq (.leaf) (.cond (.leaf) (.leaf))))) (.leaf)))))) (.seq (.leaf) (.leaf)))))))
theorem V54_eq (a0_0 : Int) (a0_1 : Option Addr) (a0_1n : Nat) (a0_1c : Nat) (a1 : Option Addr) (a1n : Nat) (a1c : Nat) (w : World) (R : Value → World → Prop) : evF Try.prog Try.f54 An54 [.agg #[.int .i64 a0_0, .slice a0_1 a0_1n a0_1c], .slice a1 a1n a1c] w R = V54 a0_0 a0_1 a0_1n a0_1c a1 a1n a1c w R := by kernel_rfl
theorem V54_calls (a0_0 : Int) (a0_1 : Option Addr) (a0_1n : Nat) (a0_1c : Nat) (a1 : Option Addr) (a1n : Nat) (a1c : Nat) (w : World) (R : Value → World → Prop) (h : V54 a0_0 a0_1 a0_1n a0_1c a1 a1n a1c w R) : Calls Try.prog 54 #[.agg #[.int .i64 a0_0, .slice a0_1 a0_1n a0_1c], .slice a1 a1n a1c] w fun e w' => ∃ v, e = .returned v ∧ R v w' :=
  calls_of_ev (args := [.agg #[.int .i64 a0_0, .slice a0_1 a0_1n a0_1c], .slice a1 a1n a1c]) Try.func54 (Nat.le_of_ble_eq_true (by kernel_rfl)) (by rw [V54_eq]; exact h)
theorem ok54 : fnOk Try.prog 54 = true := by kernel_rfl

/-! depot/depotref01.Tidy -/
def V55 (a0 : Option Addr) (a0n : Nat) (a0c : Nat) (w : World) (R : Value → World → Prop) : Prop :=
  pif ((a0n : Int) == 0) (
    R (.slice none 0 0) w) (
    pif ((a0n : Int) == 1) (
      ixA a0 a0n 0 1 fun p6 =>
      ldI .i64 w p6 fun x7 =>
      cl Try.prog 68 [.int .i64 x7] w fun e9 w1 => ∃ x8 : Bool, e9 = Ending.returned (.bool x8) ∧
      pif x8 (
        ixA a0 a0n 0 1 fun p11 =>
        ldI .i64 w1 p11 fun x12 =>
        alc w1 [.int .i64 x12] 3 fun b13 w2 =>
        R (.slice (some (⟨b13, 0, none⟩ : Addr)) 1 1) w2) (
        R (.slice none 0 0) w1)) (
      (0 : Int) ≤ (IntKind.wrap .i64 (Int.tdiv (a0n : Int) 2)) ∧ (IntKind.wrap .i64 (Int.tdiv (a0n : Int) 2)) ≤ (a0c : Int) ∧
      cl Try.prog 55 [.slice (slA a0 a0c 0 1) ((Int.toNat (IntKind.wrap .i64 (Int.tdiv (a0n : Int) 2))) - 0) (a0c - 0)] w fun e18 w3 => ∃ (x17 : Option Addr) (x17n x17c : Nat), e18 = Ending.returned (.slice x17 x17n x17c) ∧
      (0 : Int) ≤ (IntKind.wrap .i64 (Int.tdiv (a0n : Int) 2)) ∧ (IntKind.wrap .i64 (Int.tdiv (a0n : Int) 2)) ≤ (a0n : Int) ∧
      cl Try.prog 55 [.slice (slA a0 a0c (Int.toNat (IntKind.wrap .i64 (Int.tdiv (a0n : Int) 2))) 1) (a0n - (Int.toNat (IntKind.wrap .i64 (Int.tdiv (a0n : Int) 2)))) (a0c - (Int.toNat (IntKind.wrap .i64 (Int.tdiv (a0n : Int) 2))))] w3 fun e21 w4 => ∃ (x20 : Option Addr) (x20n x20c : Nat), e21 = Ending.returned (.slice x20 x20n x20c) ∧
      cl Try.prog 69 [.slice x17 x17n x17c, .slice x20 x20n x20c] w4 fun e24 w5 => ∃ (x23 : Option Addr) (x23n x23c : Nat), e24 = Ending.returned (.slice x23 x23n x23c) ∧
      R (.slice x23 x23n x23c) w5))
def An55 : An := .seq (.leaf) (.seq (.seq (.leaf) (.cond (.seq (.leaf) (.leaf)) (.leaf))) (.seq (.seq (.leaf) (.cond (.seq (.seq (.leaf) (.cond (.seq (.leaf) (.leaf)) (.leaf))) (.seq (.leaf) (.leaf))) (.leaf))) (.seq (.leaf) (.seq (.leaf) (.seq (.leaf) (.seq (.leaf) (.leaf)))))))
theorem V55_eq (a0 : Option Addr) (a0n : Nat) (a0c : Nat) (w : World) (R : Value → World → Prop) : evF Try.prog Try.f55 An55 [.slice a0 a0n a0c] w R = V55 a0 a0n a0c w R := by kernel_rfl
theorem V55_calls (a0 : Option Addr) (a0n : Nat) (a0c : Nat) (w : World) (R : Value → World → Prop) (h : V55 a0 a0n a0c w R) : Calls Try.prog 55 #[.slice a0 a0n a0c] w fun e w' => ∃ v, e = .returned v ∧ R v w' :=
  calls_of_ev (args := [.slice a0 a0n a0c]) Try.func55 (Nat.le_of_ble_eq_true (by kernel_rfl)) (by rw [V55_eq]; exact h)
theorem ok55 : fnOk Try.prog 55 = true := by kernel_rfl

/-! depot/depotref02.within -/
def V64 (a0 : Option Addr) (a0n : Nat) (a0c : Nat) (a1 : Int) (w : World) (R : Value → World → Prop) : Prop :=
  cl Try.prog 65 [.slice a0 a0n a0c] w fun e4 w1 => ∃ x3 : Bool, e4 = Ending.returned (.bool x3) ∧
  pif (!x3) (
    R (.bool false) w1) (
    lp (σ := Int × Unit) (fun s9 w2 k8 => match s9 with
      | (v7, _) =>
      pif (decide (v7 < (a0n : Int))) (
        ixA a0 a0n v7 1 fun p12 =>
        ldI .i64 w2 p12 fun x13 =>
        gd (α := Addr) (!(decide (x13 > a1))) (fun k14 =>
          ixA a0 a0n v7 1 fun p15 =>
          k14 p15 w2) ⟨0, 0, none⟩ w2 fun x16 w3 =>
        gd (α := Int) (!(decide (x13 > a1))) (fun k17 =>
          ldI .i64 w3 x16 fun x18 =>
          k17 x18 w3) 0 w3 fun x19 w4 =>
        pif (cond (decide (x13 > a1)) true (decide ((IntKind.wrap .i64 (0 - x19)) > a1))) (
          R (.bool false) w4) (
          k8 ((IntKind.wrap .i64 (v7 + 1)), ()) w4)) (
        R (.bool true) w2)) (0, ()) w1)
def An64 : An := .seq (.leaf) (.seq (.seq (.leaf) (.cond (.seq (.leaf) (.leaf)) (.leaf))) (.seq (.seq (.leaf) (.blk (.loop [(5, .one (.int .i64))] (.seq (.seq (.leaf) (.cond (.leaf) (.leaf))) (.seq (.blk (.seq (.leaf) (.cond (.seq (.leaf) (.leaf)) (.leaf)))) (.leaf)))))) (.seq (.leaf) (.leaf))))
theorem V64_eq (a0 : Option Addr) (a0n : Nat) (a0c : Nat) (a1 : Int) (w : World) (R : Value → World → Prop) : evF Try.prog Try.f64 An64 [.slice a0 a0n a0c, .int .i64 a1] w R = V64 a0 a0n a0c a1 w R := by kernel_rfl
theorem V64_calls (a0 : Option Addr) (a0n : Nat) (a0c : Nat) (a1 : Int) (w : World) (R : Value → World → Prop) (h : V64 a0 a0n a0c a1 w R) : Calls Try.prog 64 #[.slice a0 a0n a0c, .int .i64 a1] w fun e w' => ∃ v, e = .returned v ∧ R v w' :=
  calls_of_ev (args := [.slice a0 a0n a0c, .int .i64 a1]) Try.func64 (Nat.le_of_ble_eq_true (by kernel_rfl)) (by rw [V64_eq]; exact h)
theorem ok64 : fnOk Try.prog 64 = true := by kernel_rfl

/-! depot/depotref01.Sound -/
def V65 (a0 : Option Addr) (a0n : Nat) (a0c : Nat) (w : World) (R : Value → World → Prop) : Prop :=
  lp (σ := Int × Unit) (fun s5 w1 k4 => match s5 with
    | (v3, _) =>
    pif (decide (v3 < (a0n : Int))) (
      ixA a0 a0n v3 1 fun p8 =>
      ldI .i64 w1 p8 fun x9 =>
      cl Try.prog 68 [.int .i64 x9] w1 fun e11 w2 => ∃ x10 : Bool, e11 = Ending.returned (.bool x10) ∧
      pif (!x10) (
        R (.bool false) w2) (
        k4 ((IntKind.wrap .i64 (v3 + 1)), ()) w2)) (
      R (.bool true) w1)) (0, ()) w
def An65 : An := .seq (.leaf) (.seq (.seq (.leaf) (.blk (.loop [(3, .one (.int .i64))] (.seq (.seq (.leaf) (.cond (.leaf) (.leaf))) (.seq (.blk (.seq (.leaf) (.cond (.seq (.leaf) (.leaf)) (.leaf)))) (.leaf)))))) (.seq (.leaf) (.leaf)))
theorem V65_eq (a0 : Option Addr) (a0n : Nat) (a0c : Nat) (w : World) (R : Value → World → Prop) : evF Try.prog Try.f65 An65 [.slice a0 a0n a0c] w R = V65 a0 a0n a0c w R := by kernel_rfl
theorem V65_calls (a0 : Option Addr) (a0n : Nat) (a0c : Nat) (w : World) (R : Value → World → Prop) (h : V65 a0 a0n a0c w R) : Calls Try.prog 65 #[.slice a0 a0n a0c] w fun e w' => ∃ v, e = .returned v ∧ R v w' :=
  calls_of_ev (args := [.slice a0 a0n a0c]) Try.func65 (Nat.le_of_ble_eq_true (by kernel_rfl)) (by rw [V65_eq]; exact h)
theorem ok65 : fnOk Try.prog 65 = true := by kernel_rfl

/-! depot/depotref01.Var -/
def V66 (a0 : Int) (w : World) (R : Value → World → Prop) : Prop :=
  cl Try.prog 68 [.int .i64 a0] w fun e4 w1 => ∃ x3 : Bool, e4 = Ending.returned (.bool x3) ∧
  pif (!x3) (
    R (.int .i64 0) w1) (
    pif (decide (a0 < 0)) (
      R (.int .i64 (IntKind.wrap .i64 (0 - a0))) w1) (
      R (.int .i64 a0) w1))
def An66 : An := .seq (.leaf) (.seq (.seq (.leaf) (.cond (.seq (.leaf) (.leaf)) (.leaf))) (.seq (.seq (.leaf) (.cond (.seq (.leaf) (.leaf)) (.leaf))) (.seq (.leaf) (.leaf))))
theorem V66_eq (a0 : Int) (w : World) (R : Value → World → Prop) : evF Try.prog Try.f66 An66 [.int .i64 a0] w R = V66 a0 w R := by kernel_rfl
theorem V66_calls (a0 : Int) (w : World) (R : Value → World → Prop) (h : V66 a0 w R) : Calls Try.prog 66 #[.int .i64 a0] w fun e w' => ∃ v, e = .returned v ∧ R v w' :=
  calls_of_ev (args := [.int .i64 a0]) Try.func66 (Nat.le_of_ble_eq_true (by kernel_rfl)) (by rw [V66_eq]; exact h)
theorem ok66 : fnOk Try.prog 66 = true := by kernel_rfl

/-! depot/depotref06.Closing -/
def V67 (a0_0 : Int) (a0_1 : Option Addr) (a0_1n : Nat) (a0_1c : Nat) (a1 : Option Addr) (a1n : Nat) (a1c : Nat) (w : World) (R : Value → World → Prop) : Prop :=
  alc w [.int .i64 a0_0, .slice a0_1 a0_1n a0_1c] 28 fun b2 w1 =>
  ldI .i64 w1 ((⟨b2, 0, none⟩ : Addr).add 0) fun x4 =>
  ldC w1 ((⟨b2, 0, none⟩ : Addr).add 1) fun x5 x5n x5c =>
  cl Try.prog 72 [.agg #[.int .i64 x4, .slice x5 x5n x5c], .slice a1 a1n a1c] w1 fun e8 w2 => ∃ (x6 : Option Addr) (x6n x6c : Nat), ∃ x7 : Bool, e8 = Ending.returned (.tuple #[.slice x6 x6n x6c, .bool x7]) ∧
  pif (!x7) (
    R (.tuple #[.slice x6 x6n x6c, .bool true]) w2) (
    lp (σ := Int × Bool × Unit) (fun s16 w3 k15 => match s16 with
      | (v13, v14, _) =>
      pif (cond (decide (v13 > 0)) (!v14) false) (
        ldI .i64 w3 ((⟨b2, 0, none⟩ : Addr).add 0) fun x19 =>
        ldC w3 ((⟨b2, 0, none⟩ : Addr).add 1) fun x20 x20n x20c =>
        cl Try.prog 73 [.agg #[.int .i64 x19, .slice x20 x20n x20c], .slice x6 x6n x6c] w3 fun e23 w4 => ∃ x21 : Int, ∃ x22 : Bool, e23 = Ending.returned (.tuple #[.int .i64 x21, .bool x22]) ∧
        k15 (x21, x22, ()) w4) (
        R (.tuple #[.slice x6 x6n x6c, .bool v14]) w3)) (1, false, ()) w2)
def An67 : An := .seq (.leaf) (.seq (.leaf) (.seq (.seq (.leaf) (.cond (.seq (.leaf) (.leaf)) (.leaf))) (.seq (.leaf) (.seq (.leaf) (.seq (.blk (.loop [(8, .one (.int .i64)), (9, .one (.bool))] (.seq (.seq (.leaf) (.cond (.leaf) (.leaf))) (.blk (.leaf))))) (.seq (.leaf) (.leaf)))))))
theorem V67_eq (a0_0 : Int) (a0_1 : Option Addr) (a0_1n : Nat) (a0_1c : Nat) (a1 : Option Addr) (a1n : Nat) (a1c : Nat) (w : World) (R : Value → World → Prop) : evF Try.prog Try.f67 An67 [.agg #[.int .i64 a0_0, .slice a0_1 a0_1n a0_1c], .slice a1 a1n a1c] w R = V67 a0_0 a0_1 a0_1n a0_1c a1 a1n a1c w R := by kernel_rfl
theorem V67_calls (a0_0 : Int) (a0_1 : Option Addr) (a0_1n : Nat) (a0_1c : Nat) (a1 : Option Addr) (a1n : Nat) (a1c : Nat) (w : World) (R : Value → World → Prop) (h : V67 a0_0 a0_1 a0_1n a0_1c a1 a1n a1c w R) : Calls Try.prog 67 #[.agg #[.int .i64 a0_0, .slice a0_1 a0_1n a0_1c], .slice a1 a1n a1c] w fun e w' => ∃ v, e = .returned v ∧ R v w' :=
  calls_of_ev (args := [.agg #[.int .i64 a0_0, .slice a0_1 a0_1n a0_1c], .slice a1 a1n a1c]) Try.func67 (Nat.le_of_ble_eq_true (by kernel_rfl)) (by rw [V67_eq]; exact h)
theorem ok67 : fnOk Try.prog 67 = true := by kernel_rfl

/-! depot/depotref01.Formed -/
def V68 (a0 : Int) (w : World) (R : Value → World → Prop) : Prop :=
  R (.bool (cond (cond (decide (a0 ≥ 1)) (decide (a0 ≤ 1048576)) false) true (cond (decide (a0 ≥ (-1048576))) (decide (a0 ≤ (-1))) false))) w
def An68 : An := .seq (.leaf) (.seq (.leaf) (.leaf))
theorem V68_eq (a0 : Int) (w : World) (R : Value → World → Prop) : evF Try.prog Try.f68 An68 [.int .i64 a0] w R = V68 a0 w R := by kernel_rfl
theorem V68_calls (a0 : Int) (w : World) (R : Value → World → Prop) (h : V68 a0 w R) : Calls Try.prog 68 #[.int .i64 a0] w fun e w' => ∃ v, e = .returned v ∧ R v w' :=
  calls_of_ev (args := [.int .i64 a0]) Try.func68 (Nat.le_of_ble_eq_true (by kernel_rfl)) (by rw [V68_eq]; exact h)
theorem ok68 : fnOk Try.prog 68 = true := by kernel_rfl

/-! depot/depotref01.merged -/
def V69 (a0 : Option Addr) (a0n : Nat) (a0c : Nat) (a1 : Option Addr) (a1n : Nat) (a1c : Nat) (w : World) (R : Value → World → Prop) : Prop :=
  lp (σ := (Option Addr × Nat × Nat) × Int × Int × Unit) (fun s9 w1 k8 => match s9 with
    | ((v5, v5n, v5c), v6, v7, _) =>
    pif (cond (decide (v6 < (a0n : Int))) true (decide (v7 < (a1n : Int)))) (
      gd (α := Addr) ((!(v7 == (a1n : Int))) && (decide (v6 < (a0n : Int)))) (fun k11 =>
        ixA a0 a0n v6 1 fun p12 =>
        k11 p12 (World.drew w1)) ⟨0, 0, none⟩ (World.drew w1) fun x13 _ =>
      gd (α := Int) ((!(v7 == (a1n : Int))) && (decide (v6 < (a0n : Int)))) (fun k14 =>
        ldI .i64 (World.drew w1) x13 fun x15 =>
        k14 x15 (World.drew w1)) 0 (World.drew w1) fun x16 _ =>
      gd (α := Addr) ((!(v7 == (a1n : Int))) && (decide (v6 < (a0n : Int)))) (fun k17 =>
        ixA a1 a1n v7 1 fun p18 =>
        k17 p18 (World.drew w1)) ⟨0, 0, none⟩ (World.drew w1) fun x19 _ =>
      gd (α := Int) ((!(v7 == (a1n : Int))) && (decide (v6 < (a0n : Int)))) (fun k20 =>
        ldI .i64 (World.drew w1) x19 fun x21 =>
        k20 x21 (World.drew w1)) 0 (World.drew w1) fun x22 _ =>
      gd (α := Int) ((!(v7 == (a1n : Int))) && (decide (v6 < (a0n : Int)))) (fun k23 =>
        cl Try.prog 74 [.int .i64 x16] (World.drew w1) fun e25 w2 => ∃ x24 : Int, e25 = Ending.returned (.int .i64 x24) ∧
        k23 x24 w2) 0 (World.drew w1) fun x26 w3 =>
      (((!(v7 == (a1n : Int))) && (decide (v6 < (a0n : Int)))) = true →
        ldI .i64 w3 x19 fun x27 =>
        ((.int .i64 x27 : Value) = .int .i64 x22)) ∧
      gd (α := Int) ((!(v7 == (a1n : Int))) && (decide (v6 < (a0n : Int)))) (fun k28 =>
        cl Try.prog 74 [.int .i64 x22] w3 fun e30 w4 => ∃ x29 : Int, e30 = Ending.returned (.int .i64 x29) ∧
        k28 x29 w4) 0 w3 fun x31 w5 =>
      pif (cond (v7 == (a1n : Int)) true (cond (decide (v6 < (a0n : Int))) (decide (x26 < x31)) false)) (
        ixA a0 a0n v6 1 fun p33 =>
        ldI .i64 w5 p33 fun x34 =>
        alc w5 [.int .i64 x34] 3 fun b35 w6 =>
        ∃ (x36 : Option Addr) (x36n x36c : Nat), ∃ w7 : World, (Builtin.append_ #[29, 29] 29 #[.slice v5 v5n v5c, .slice (some (⟨b35, 0, none⟩ : Addr)) 1 1]).run Try.prog w6 = .ok (.slice x36 x36n x36c) w7 ∧
        k8 ((x36, x36n, x36c), (IntKind.wrap .i64 (v6 + 1)), v7, ()) w7) (
        gd (α := Addr) (!(v6 == (a0n : Int))) (fun k38 =>
          ixA a1 a1n v7 1 fun p39 =>
          k38 p39 (World.drew w5)) ⟨0, 0, none⟩ (World.drew w5) fun x40 _ =>
        gd (α := Int) (!(v6 == (a0n : Int))) (fun k41 =>
          ldI .i64 (World.drew w5) x40 fun x42 =>
          k41 x42 (World.drew w5)) 0 (World.drew w5) fun x43 _ =>
        gd (α := Addr) (!(v6 == (a0n : Int))) (fun k44 =>
          ixA a0 a0n v6 1 fun p45 =>
          k44 p45 (World.drew w5)) ⟨0, 0, none⟩ (World.drew w5) fun x46 _ =>
        gd (α := Int) (!(v6 == (a0n : Int))) (fun k47 =>
          ldI .i64 (World.drew w5) x46 fun x48 =>
          k47 x48 (World.drew w5)) 0 (World.drew w5) fun x49 _ =>
        gd (α := Int) (!(v6 == (a0n : Int))) (fun k50 =>
          cl Try.prog 74 [.int .i64 x43] (World.drew w5) fun e52 w8 => ∃ x51 : Int, e52 = Ending.returned (.int .i64 x51) ∧
          k50 x51 w8) 0 (World.drew w5) fun x53 w9 =>
        ((!(v6 == (a0n : Int))) = true →
          ldI .i64 w9 x46 fun x54 =>
          ((.int .i64 x54 : Value) = .int .i64 x49)) ∧
        gd (α := Int) (!(v6 == (a0n : Int))) (fun k55 =>
          cl Try.prog 74 [.int .i64 x49] w9 fun e57 w10 => ∃ x56 : Int, e57 = Ending.returned (.int .i64 x56) ∧
          k55 x56 w10) 0 w9 fun x58 w11 =>
        pif (cond (v6 == (a0n : Int)) true (decide (x53 < x58))) (
          ixA a1 a1n v7 1 fun p60 =>
          ldI .i64 w11 p60 fun x61 =>
          alc w11 [.int .i64 x61] 3 fun b62 w12 =>
          ∃ (x63 : Option Addr) (x63n x63c : Nat), ∃ w13 : World, (Builtin.append_ #[29, 29] 29 #[.slice v5 v5n v5c, .slice (some (⟨b62, 0, none⟩ : Addr)) 1 1]).run Try.prog w12 = .ok (.slice x63 x63n x63c) w13 ∧
          k8 ((x63, x63n, x63c), v6, (IntKind.wrap .i64 (v7 + 1)), ()) w13) (
          ixA a0 a0n v6 1 fun p66 =>
          ldI .i64 w11 p66 fun x67 =>
          alc w11 [.int .i64 x67] 3 fun b68 w14 =>
          ∃ (x69 : Option Addr) (x69n x69c : Nat), ∃ w15 : World, (Builtin.append_ #[29, 29] 29 #[.slice v5 v5n v5c, .slice (some (⟨b68, 0, none⟩ : Addr)) 1 1]).run Try.prog w14 = .ok (.slice x69 x69n x69c) w15 ∧
          k8 ((x69, x69n, x69c), (IntKind.wrap .i64 (v6 + 1)), (IntKind.wrap .i64 (v7 + 1)), ()) w15))) (
      R (.slice v5 v5n v5c) w1)) ((none, 0, 0), 0, 0, ()) w
def An69 : An := .seq (.leaf) (.seq (.leaf) (.seq (.leaf) (.seq (.leaf) (.seq (.blk (.loop [(5, .one (.slc)), (6, .one (.int .i64)), (7, .one (.int .i64))] (.seq (.seq (.leaf) (.cond (.leaf) (.leaf))) (.blk (.blk (.seq (.draw [0, 0, 2, 7, 15, 31, 31, 95, 255, 511, 1023, 1023, 4095, 8191, 16383, 1023, 1023, 99327, 230399, 524287, 1048575, 2097151, 4194303, 8388607]) (.cond (.seq (.leaf) (.leaf)) (.seq (.draw [0, 0, 2, 7, 15, 31, 31, 127, 255, 511, 31, 31, 3103, 7199, 16383, 32767, 65535, 131071]) (.cond (.seq (.leaf) (.leaf)) (.seq (.leaf) (.seq (.leaf) (.leaf)))))))))))) (.seq (.leaf) (.leaf))))))
theorem V69_eq (a0 : Option Addr) (a0n : Nat) (a0c : Nat) (a1 : Option Addr) (a1n : Nat) (a1c : Nat) (w : World) (R : Value → World → Prop) : evF Try.prog Try.f69 An69 [.slice a0 a0n a0c, .slice a1 a1n a1c] w R = V69 a0 a0n a0c a1 a1n a1c w R := by kernel_rfl
theorem V69_calls (a0 : Option Addr) (a0n : Nat) (a0c : Nat) (a1 : Option Addr) (a1n : Nat) (a1c : Nat) (w : World) (R : Value → World → Prop) (h : V69 a0 a0n a0c a1 a1n a1c w R) : Calls Try.prog 69 #[.slice a0 a0n a0c, .slice a1 a1n a1c] w fun e w' => ∃ v, e = .returned v ∧ R v w' :=
  calls_of_ev (args := [.slice a0 a0n a0c, .slice a1 a1n a1c]) Try.func69 (Nat.le_of_ble_eq_true (by kernel_rfl)) (by rw [V69_eq]; exact h)
theorem ok69 : fnOk Try.prog 69 = true := by kernel_rfl

/-! depot/depotref06.given -/
def V72 (a0_0 : Int) (a0_1 : Option Addr) (a0_1n : Nat) (a0_1c : Nat) (a1 : Option Addr) (a1n : Nat) (a1c : Nat) (w : World) (R : Value → World → Prop) : Prop :=
  alc w [.int .i64 a0_0, .slice a0_1 a0_1n a0_1c] 28 fun b2 w1 =>
  ldI .i64 w1 ((⟨b2, 0, none⟩ : Addr).add 0) fun x4 =>
  ldC w1 ((⟨b2, 0, none⟩ : Addr).add 1) fun x5 x5n x5c =>
  cl Try.prog 85 [.agg #[.int .i64 x4, .slice x5 x5n x5c], .slice a1 a1n a1c] w1 fun e7 w2 => ∃ (x6 : Option Addr) (x6n x6c : Nat), e7 = Ending.returned (.slice x6 x6n x6c) ∧
  lp (σ := Int × Unit) (fun s11 w3 k10 => match s11 with
    | (v9, _) =>
    pif (decide (v9 < (a1n : Int))) (
      ixA a1 a1n v9 1 fun p14 =>
      ldI .i64 w3 p14 fun x15 =>
      cl Try.prog 86 [.slice x6 x6n x6c, .int .i64 x15] w3 fun e17 w4 => ∃ x16 : Int, e17 = Ending.returned (.int .i64 x16) ∧
      pif (x16 == (-1)) (
        R (.tuple #[.slice x6 x6n x6c, .bool false]) w4) (
        ixA a1 a1n v9 1 fun p20 =>
        ldI .i64 w4 p20 fun x21 =>
        cl Try.prog 87 [.slice x6 x6n x6c, .int .i64 x21] w4 fun e22 w5 => e22 = Ending.returned (.tuple #[]) ∧
        k10 ((IntKind.wrap .i64 (v9 + 1)), ()) w5)) (
      R (.tuple #[.slice x6 x6n x6c, .bool true]) w3)) (0, ()) w2
def An72 : An := .seq (.leaf) (.seq (.leaf) (.seq (.seq (.leaf) (.blk (.loop [(7, .one (.int .i64))] (.seq (.seq (.leaf) (.cond (.leaf) (.leaf))) (.seq (.blk (.seq (.seq (.leaf) (.cond (.seq (.leaf) (.leaf)) (.leaf))) (.leaf))) (.leaf)))))) (.seq (.leaf) (.leaf))))
theorem V72_eq (a0_0 : Int) (a0_1 : Option Addr) (a0_1n : Nat) (a0_1c : Nat) (a1 : Option Addr) (a1n : Nat) (a1c : Nat) (w : World) (R : Value → World → Prop) : evF Try.prog Try.f72 An72 [.agg #[.int .i64 a0_0, .slice a0_1 a0_1n a0_1c], .slice a1 a1n a1c] w R = V72 a0_0 a0_1 a0_1n a0_1c a1 a1n a1c w R := by kernel_rfl
theorem V72_calls (a0_0 : Int) (a0_1 : Option Addr) (a0_1n : Nat) (a0_1c : Nat) (a1 : Option Addr) (a1n : Nat) (a1c : Nat) (w : World) (R : Value → World → Prop) (h : V72 a0_0 a0_1 a0_1n a0_1c a1 a1n a1c w R) : Calls Try.prog 72 #[.agg #[.int .i64 a0_0, .slice a0_1 a0_1n a0_1c], .slice a1 a1n a1c] w fun e w' => ∃ v, e = .returned v ∧ R v w' :=
  calls_of_ev (args := [.agg #[.int .i64 a0_0, .slice a0_1 a0_1n a0_1c], .slice a1 a1n a1c]) Try.func72 (Nat.le_of_ble_eq_true (by kernel_rfl)) (by rw [V72_eq]; exact h)
theorem ok72 : fnOk Try.prog 72 = true := by kernel_rfl

/-! depot/depotref06.round -/
def V73 (a0_0 : Int) (a0_1 : Option Addr) (a0_1n : Nat) (a0_1c : Nat) (a1 : Option Addr) (a1n : Nat) (a1c : Nat) (w : World) (R : Value → World → Prop) : Prop :=
  alc w [.int .i64 a0_0, .slice a0_1 a0_1n a0_1c] 28 fun b2 w1 =>
  lp (σ := Int × Int × Unit) (fun s8 w2 k7 => match s8 with
    | (v5, v6, _) =>
    ldC w2 ((⟨b2, 0, none⟩ : Addr).add 1) fun x10 x10n x10c =>
    pif (decide (v6 < (x10n : Int))) (
      jn (σ := Int × Unit) (fun k12 =>
        ldC w2 ((⟨b2, 0, none⟩ : Addr).add 1) fun x15 x15n x15c =>
        ixA x15 x15n v6 1 fun p16 =>
        ldC w2 p16 fun x17 x17n x17c =>
        cl Try.prog 88 [.slice x17 x17n x17c, .slice a1 a1n a1c] w2 fun e20 w4 => ∃ x18 : Int, ∃ x19 : Int, e20 = Ending.returned (.tuple #[.int .i64 x18, .int .i64 x19]) ∧
        pif (x18 == 2) (
          R (.tuple #[.int .i64 v5, .bool true]) w4) (
          pif (x18 == 3) (
            cl Try.prog 87 [.slice a1 a1n a1c, .int .i64 x19] w4 fun e25 w5 => e25 = Ending.returned (.tuple #[]) ∧
            k12 ((IntKind.wrap .i64 (v5 + 1)), ()) w5) (
            k12 (v5, ()) w4))) fun s13 w3 => match s13 with
      | (v11, _) =>
      k7 (v11, (IntKind.wrap .i64 (v6 + 1)), ()) w3) (
      R (.tuple #[.int .i64 v5, .bool false]) w2)) (0, 0, ()) w1
def An73 : An := .seq (.leaf) (.seq (.leaf) (.seq (.seq (.leaf) (.blk (.loop [(6, .one (.int .i64)), (7, .one (.int .i64))] (.seq (.seq (.leaf) (.cond (.leaf) (.leaf))) (.seq (.join [(6, .one (.int .i64))] (.blk (.seq (.leaf) (.seq (.seq (.leaf) (.cond (.seq (.leaf) (.leaf)) (.leaf))) (.seq (.leaf) (.cond (.seq (.leaf) (.leaf)) (.leaf))))))) (.leaf)))))) (.seq (.leaf) (.leaf))))
theorem V73_eq (a0_0 : Int) (a0_1 : Option Addr) (a0_1n : Nat) (a0_1c : Nat) (a1 : Option Addr) (a1n : Nat) (a1c : Nat) (w : World) (R : Value → World → Prop) : evF Try.prog Try.f73 An73 [.agg #[.int .i64 a0_0, .slice a0_1 a0_1n a0_1c], .slice a1 a1n a1c] w R = V73 a0_0 a0_1 a0_1n a0_1c a1 a1n a1c w R := by kernel_rfl
theorem V73_calls (a0_0 : Int) (a0_1 : Option Addr) (a0_1n : Nat) (a0_1c : Nat) (a1 : Option Addr) (a1n : Nat) (a1c : Nat) (w : World) (R : Value → World → Prop) (h : V73 a0_0 a0_1 a0_1n a0_1c a1 a1n a1c w R) : Calls Try.prog 73 #[.agg #[.int .i64 a0_0, .slice a0_1 a0_1n a0_1c], .slice a1 a1n a1c] w fun e w' => ∃ v, e = .returned v ∧ R v w' :=
  calls_of_ev (args := [.agg #[.int .i64 a0_0, .slice a0_1 a0_1n a0_1c], .slice a1 a1n a1c]) Try.func73 (Nat.le_of_ble_eq_true (by kernel_rfl)) (by rw [V73_eq]; exact h)
theorem ok73 : fnOk Try.prog 73 = true := by kernel_rfl

/-! depot/depotref01.Index -/
def V74 (a0 : Int) (w : World) (R : Value → World → Prop) : Prop :=
  cl Try.prog 68 [.int .i64 a0] w fun e4 w1 => ∃ x3 : Bool, e4 = Ending.returned (.bool x3) ∧
  pif (!x3) (
    R (.int .i64 (-1)) w1) (
    pif (decide (a0 < 0)) (
      R (.int .i64 (IntKind.wrap .i64 ((IntKind.wrap .i64 ((-2) * a0)) - 1))) w1) (
      R (.int .i64 (IntKind.wrap .i64 ((IntKind.wrap .i64 (2 * a0)) - 2))) w1))
def An74 : An := .seq (.leaf) (.seq (.seq (.leaf) (.cond (.seq (.leaf) (.leaf)) (.leaf))) (.seq (.seq (.leaf) (.cond (.seq (.leaf) (.leaf)) (.leaf))) (.seq (.leaf) (.leaf))))
theorem V74_eq (a0 : Int) (w : World) (R : Value → World → Prop) : evF Try.prog Try.f74 An74 [.int .i64 a0] w R = V74 a0 w R := by kernel_rfl
theorem V74_calls (a0 : Int) (w : World) (R : Value → World → Prop) (h : V74 a0 w R) : Calls Try.prog 74 #[.int .i64 a0] w fun e w' => ∃ v, e = .returned v ∧ R v w' :=
  calls_of_ev (args := [.int .i64 a0]) Try.func74 (Nat.le_of_ble_eq_true (by kernel_rfl)) (by rw [V74_eq]; exact h)
theorem ok74 : fnOk Try.prog 74 = true := by kernel_rfl

/-! depot/depotref06.Values -/
def V85 (a0_0 : Int) (a0_1 : Option Addr) (a0_1n : Nat) (a0_1c : Nat) (a1 : Option Addr) (a1n : Nat) (a1c : Nat) (w : World) (R : Value → World → Prop) : Prop :=
  alc w [.int .i64 a0_0, .slice a0_1 a0_1n a0_1c] 28 fun b2 w1 =>
  cl Try.prog 94 [.slice a1 a1n a1c, .int .i64 0] w1 fun e5 w2 => ∃ x4 : Int, e5 = Ending.returned (.int .i64 x4) ∧
  lp (σ := Int × Int × Unit) (fun s10 w3 k9 => match s10 with
    | (v7, v8, _) =>
    ldC w3 ((⟨b2, 0, none⟩ : Addr).add 1) fun x12 x12n x12c =>
    pif (decide (v8 < (x12n : Int))) (
      ldC w3 ((⟨b2, 0, none⟩ : Addr).add 1) fun x14 x14n x14c =>
      ixA x14 x14n v8 1 fun p15 =>
      ldC w3 p15 fun x16 x16n x16c =>
      cl Try.prog 94 [.slice x16 x16n x16c, .int .i64 v7] w3 fun e18 w4 => ∃ x17 : Int, e18 = Ending.returned (.int .i64 x17) ∧
      k9 (x17, (IntKind.wrap .i64 (v8 + 1)), ()) w4) (
      ∃ (x21 : Option Addr) (x21n x21c : Nat), ∃ w5 : World, (Instr.makeSlice 29 (.int .i64 (IntKind.wrap .i64 (v7 + 1))) (.int .i64 (IntKind.wrap .i64 (v7 + 1)))).run Try.prog w3 = .ok (.slice x21 x21n x21c) w5 ∧
      R (.slice x21 x21n x21c) w5)) (x4, 0, ()) w2
def An85 : An := .seq (.leaf) (.seq (.leaf) (.seq (.seq (.leaf) (.blk (.loop [(5, .one (.int .i64)), (6, .one (.int .i64))] (.seq (.seq (.leaf) (.cond (.leaf) (.leaf))) (.seq (.blk (.leaf)) (.leaf)))))) (.seq (.leaf) (.leaf))))
theorem V85_eq (a0_0 : Int) (a0_1 : Option Addr) (a0_1n : Nat) (a0_1c : Nat) (a1 : Option Addr) (a1n : Nat) (a1c : Nat) (w : World) (R : Value → World → Prop) : evF Try.prog Try.f85 An85 [.agg #[.int .i64 a0_0, .slice a0_1 a0_1n a0_1c], .slice a1 a1n a1c] w R = V85 a0_0 a0_1 a0_1n a0_1c a1 a1n a1c w R := by kernel_rfl
theorem V85_calls (a0_0 : Int) (a0_1 : Option Addr) (a0_1n : Nat) (a0_1c : Nat) (a1 : Option Addr) (a1n : Nat) (a1c : Nat) (w : World) (R : Value → World → Prop) (h : V85 a0_0 a0_1 a0_1n a0_1c a1 a1n a1c w R) : Calls Try.prog 85 #[.agg #[.int .i64 a0_0, .slice a0_1 a0_1n a0_1c], .slice a1 a1n a1c] w fun e w' => ∃ v, e = .returned v ∧ R v w' :=
  calls_of_ev (args := [.agg #[.int .i64 a0_0, .slice a0_1 a0_1n a0_1c], .slice a1 a1n a1c]) Try.func85 (Nat.le_of_ble_eq_true (by kernel_rfl)) (by rw [V85_eq]; exact h)
theorem ok85 : fnOk Try.prog 85 = true := by kernel_rfl

/-! depot/depotref06.Value -/
def V86 (a0 : Option Addr) (a0n : Nat) (a0c : Nat) (a1 : Int) (w : World) (R : Value → World → Prop) : Prop :=
  pif (decide (a1 < 0)) (
    pif (decide ((IntKind.wrap .i64 (0 - a1)) < (a0n : Int))) (
      ixA a0 a0n (IntKind.wrap .i64 (0 - a1)) 1 fun p5 =>
      ldI .i64 w p5 fun x6 =>
      R (.int .i64 (IntKind.wrap .i64 (0 - x6))) w) (
      R (.int .i64 0) w)) (
    pif (decide (a1 < (a0n : Int))) (
      ixA a0 a0n a1 1 fun p10 =>
      ldI .i64 w p10 fun x11 =>
      R (.int .i64 x11) w) (
      R (.int .i64 0) w))
def An86 : An := .seq (.leaf) (.seq (.seq (.leaf) (.cond (.seq (.seq (.leaf) (.cond (.seq (.leaf) (.leaf)) (.leaf))) (.seq (.leaf) (.leaf))) (.leaf))) (.seq (.seq (.leaf) (.cond (.seq (.leaf) (.leaf)) (.leaf))) (.seq (.leaf) (.leaf))))
theorem V86_eq (a0 : Option Addr) (a0n : Nat) (a0c : Nat) (a1 : Int) (w : World) (R : Value → World → Prop) : evF Try.prog Try.f86 An86 [.slice a0 a0n a0c, .int .i64 a1] w R = V86 a0 a0n a0c a1 w R := by kernel_rfl
theorem V86_calls (a0 : Option Addr) (a0n : Nat) (a0c : Nat) (a1 : Int) (w : World) (R : Value → World → Prop) (h : V86 a0 a0n a0c a1 w R) : Calls Try.prog 86 #[.slice a0 a0n a0c, .int .i64 a1] w fun e w' => ∃ v, e = .returned v ∧ R v w' :=
  calls_of_ev (args := [.slice a0 a0n a0c, .int .i64 a1]) Try.func86 (Nat.le_of_ble_eq_true (by kernel_rfl)) (by rw [V86_eq]; exact h)
theorem ok86 : fnOk Try.prog 86 = true := by kernel_rfl

/-! depot/depotref06.Put -/
def V87 (a0 : Option Addr) (a0n : Nat) (a0c : Nat) (a1 : Int) (w : World) (R : Value → World → Prop) : Prop :=
  jn (σ := Unit) (fun k1 =>
    pif (cond (decide (a1 < 0)) (decide ((IntKind.wrap .i64 (0 - a1)) < (a0n : Int))) false) (
      ixA a0 a0n (IntKind.wrap .i64 (0 - a1)) 1 fun p5 =>
      st w (p5.add 0) (.int .i64 (-1)) fun w2 =>
      k1 (()) w2) (
      k1 (()) w)) fun s2 w1 => match s2 with
  | (_) =>
  pif (cond (decide (a1 ≥ 0)) (decide (a1 < (a0n : Int))) false) (
    ixA a0 a0n a1 1 fun p8 =>
    st w1 (p8.add 0) (.int .i64 1) fun w3 =>
    R (.tuple #[]) w3) (
    R (.tuple #[]) w1)
def An87 : An := .seq (.join [] (.seq (.leaf) (.cond (.leaf) (.leaf)))) (.seq (.leaf) (.cond (.leaf) (.leaf)))
theorem V87_eq (a0 : Option Addr) (a0n : Nat) (a0c : Nat) (a1 : Int) (w : World) (R : Value → World → Prop) : evF Try.prog Try.f87 An87 [.slice a0 a0n a0c, .int .i64 a1] w R = V87 a0 a0n a0c a1 w R := by kernel_rfl
theorem V87_calls (a0 : Option Addr) (a0n : Nat) (a0c : Nat) (a1 : Int) (w : World) (R : Value → World → Prop) (h : V87 a0 a0n a0c a1 w R) : Calls Try.prog 87 #[.slice a0 a0n a0c, .int .i64 a1] w fun e w' => ∃ v, e = .returned v ∧ R v w' :=
  calls_of_ev (args := [.slice a0 a0n a0c, .int .i64 a1]) Try.func87 (Nat.le_of_ble_eq_true (by kernel_rfl)) (by rw [V87_eq]; exact h)
theorem ok87 : fnOk Try.prog 87 = true := by kernel_rfl

/-! depot/depotref06.Stands -/
def V88 (a0 : Option Addr) (a0n : Nat) (a0c : Nat) (a1 : Option Addr) (a1n : Nat) (a1c : Nat) (w : World) (R : Value → World → Prop) : Prop :=
  lp (σ := Int × Int × Unit) (fun s7 w1 k6 => match s7 with
    | (v4, v5, _) =>
    pif (decide (v5 < (a0n : Int))) (
      jn (σ := Int × Unit) (fun k10 =>
        ixA a0 a0n v5 1 fun p13 =>
        ldI .i64 w1 p13 fun x14 =>
        cl Try.prog 86 [.slice a1 a1n a1c, .int .i64 x14] w1 fun e16 w3 => ∃ x15 : Int, e16 = Ending.returned (.int .i64 x15) ∧
        pif (x15 == 1) (
          R (.tuple #[.int .i64 1, .int .i64 0]) w3) (
          gd (α := Addr) (cond (x15 == 0) (v4 != 0) false) (fun k20 =>
            ixA a0 a0n v5 1 fun p21 =>
            k20 p21 w3) ⟨0, 0, none⟩ w3 fun x22 w4 =>
          gd (α := Int) (cond (x15 == 0) (v4 != 0) false) (fun k23 =>
            ldI .i64 w4 x22 fun x24 =>
            k23 x24 w4) 0 w4 fun x25 w5 =>
          pif (cond (cond (x15 == 0) (v4 != 0) false) (v4 != x25) false) (
            R (.tuple #[.int .i64 0, .int .i64 0]) w5) (
            pif (x15 == 0) (
              ixA a0 a0n v5 1 fun p29 =>
              ldI .i64 w5 p29 fun x30 =>
              k10 (x30, ()) w5) (
              k10 (v4, ()) w5)))) fun s11 w2 => match s11 with
      | (v9, _) =>
      k6 (v9, (IntKind.wrap .i64 (v5 + 1)), ()) w2) (
      pif (v4 == 0) (
        R (.tuple #[.int .i64 2, .int .i64 0]) w1) (
        R (.tuple #[.int .i64 3, .int .i64 v4]) w1))) (0, 0, ()) w
def An88 : An := .seq (.leaf) (.seq (.leaf) (.seq (.seq (.leaf) (.blk (.loop [(6, .one (.int .i64)), (7, .one (.int .i64))] (.seq (.seq (.leaf) (.cond (.leaf) (.leaf))) (.seq (.join [(6, .one (.int .i64))] (.blk (.seq (.leaf) (.seq (.seq (.leaf) (.cond (.seq (.leaf) (.leaf)) (.leaf))) (.seq (.seq (.leaf) (.cond (.seq (.leaf) (.leaf)) (.leaf))) (.seq (.leaf) (.cond (.leaf) (.leaf)))))))) (.leaf)))))) (.seq (.seq (.leaf) (.cond (.seq (.leaf) (.leaf)) (.leaf))) (.seq (.leaf) (.leaf)))))
theorem V88_eq (a0 : Option Addr) (a0n : Nat) (a0c : Nat) (a1 : Option Addr) (a1n : Nat) (a1c : Nat) (w : World) (R : Value → World → Prop) : evF Try.prog Try.f88 An88 [.slice a0 a0n a0c, .slice a1 a1n a1c] w R = V88 a0 a0n a0c a1 a1n a1c w R := by kernel_rfl
theorem V88_calls (a0 : Option Addr) (a0n : Nat) (a0c : Nat) (a1 : Option Addr) (a1n : Nat) (a1c : Nat) (w : World) (R : Value → World → Prop) (h : V88 a0 a0n a0c a1 a1n a1c w R) : Calls Try.prog 88 #[.slice a0 a0n a0c, .slice a1 a1n a1c] w fun e w' => ∃ v, e = .returned v ∧ R v w' :=
  calls_of_ev (args := [.slice a0 a0n a0c, .slice a1 a1n a1c]) Try.func88 (Nat.le_of_ble_eq_true (by kernel_rfl)) (by rw [V88_eq]; exact h)
theorem ok88 : fnOk Try.prog 88 = true := by kernel_rfl

/-! depot/depotref06.greatest -/
def V94 (a0 : Option Addr) (a0n : Nat) (a0c : Nat) (a1 : Int) (w : World) (R : Value → World → Prop) : Prop :=
  lp (σ := Int × Int × Unit) (fun s6 w1 k5 => match s6 with
    | (v3, v4, _) =>
    pif (decide (v4 < (a0n : Int))) (
      jn (σ := Int × Unit) (fun k9 =>
        jn (σ := Int × Unit) (fun k12 =>
          ixA a0 a0n v4 1 fun p15 =>
          ldI .i64 w1 p15 fun x16 =>
          pif (decide (x16 > v3)) (
            ixA a0 a0n v4 1 fun p18 =>
            ldI .i64 w1 p18 fun x19 =>
            k12 (x19, ()) w1) (
            k12 (v3, ()) w1)) fun s13 w3 => match s13 with
        | (v11, _) =>
        ixA a0 a0n v4 1 fun p21 =>
        ldI .i64 w3 p21 fun x22 =>
        pif (decide ((IntKind.wrap .i64 (0 - x22)) > v11)) (
          ixA a0 a0n v4 1 fun p24 =>
          ldI .i64 w3 p24 fun x25 =>
          k9 ((IntKind.wrap .i64 (0 - x25)), ()) w3) (
          k9 (v11, ()) w3)) fun s10 w2 => match s10 with
      | (v8, _) =>
      k5 (v8, (IntKind.wrap .i64 (v4 + 1)), ()) w2) (
      R (.int .i64 v3) w1)) (a1, 0, ()) w
def An94 : An := .seq (.leaf) (.seq (.seq (.leaf) (.blk (.loop [(1, .one (.int .i64)), (5, .one (.int .i64))] (.seq (.seq (.leaf) (.cond (.leaf) (.leaf))) (.seq (.join [(1, .one (.int .i64))] (.blk (.seq (.join [(1, .one (.int .i64))] (.seq (.leaf) (.cond (.leaf) (.leaf)))) (.seq (.leaf) (.cond (.leaf) (.leaf)))))) (.leaf)))))) (.seq (.leaf) (.leaf)))
theorem V94_eq (a0 : Option Addr) (a0n : Nat) (a0c : Nat) (a1 : Int) (w : World) (R : Value → World → Prop) : evF Try.prog Try.f94 An94 [.slice a0 a0n a0c, .int .i64 a1] w R = V94 a0 a0n a0c a1 w R := by kernel_rfl
theorem V94_calls (a0 : Option Addr) (a0n : Nat) (a0c : Nat) (a1 : Int) (w : World) (R : Value → World → Prop) (h : V94 a0 a0n a0c a1 w R) : Calls Try.prog 94 #[.slice a0 a0n a0c, .int .i64 a1] w fun e w' => ∃ v, e = .returned v ∧ R v w' :=
  calls_of_ev (args := [.slice a0 a0n a0c, .int .i64 a1]) Try.func94 (Nat.le_of_ble_eq_true (by kernel_rfl)) (by rw [V94_eq]; exact h)
theorem ok94 : fnOk Try.prog 94 = true := by kernel_rfl

end Go.Proofs.Ytjpblaenebodlaa.T
