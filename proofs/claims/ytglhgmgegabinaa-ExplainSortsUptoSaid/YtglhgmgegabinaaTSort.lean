/- The conditions under which the functions printed here return, as propositions over typed values; each is the machine's own, by the generator's theorem. -/
import Derived.Test.YtglhgmgegabinaaProg
import Derived.Test.YtglhgmgegabinaaVcG
set_option linter.unusedVariables false
set_option maxRecDepth 100000
namespace Go.Proofs.Ytglhgmgegabinaa.T
open Go Go.Proofs.Ytglhgmgegabinaa.Vc
/-! slices.SortFunc[[]depot/api.Fault,depot/api.Fault] -/
def V11 (a0 : Option Addr) (a0n : Nat) (a0c : Nat) (a1 : Value) (w : World) (R : Value → World → Prop) : Prop :=
  cl Try.prog 16 [.int .u64 (IntKind.wrap .u64 (a0n : Int))] w fun e4 w1 => ∃ x3 : Int, e4 = Ending.returned (.int .i64 x3) ∧
  cl Try.prog 15 [.slice a0 a0n a0c, .int .i64 0, .int .i64 (a0n : Int), .int .i64 x3, a1] w1 fun e5 w2 => e5 = Ending.returned (.tuple #[]) ∧
  R (.tuple #[]) w2
def An11 : An := .seq (.leaf) (.leaf)
theorem V11_eq (a0 : Option Addr) (a0n : Nat) (a0c : Nat) (a1 : Value) (w : World) (R : Value → World → Prop) : evF Try.prog Try.f11 An11 [.slice a0 a0n a0c, a1] w R = V11 a0 a0n a0c a1 w R := by kernel_rfl
theorem V11_calls (a0 : Option Addr) (a0n : Nat) (a0c : Nat) (a1 : Value) (w : World) (R : Value → World → Prop) (h : V11 a0 a0n a0c a1 w R) : Calls Try.prog 11 #[.slice a0 a0n a0c, a1] w fun e w' => ∃ v, e = .returned v ∧ R v w' :=
  calls_of_ev (args := [.slice a0 a0n a0c, a1]) Try.func11 (Nat.le_of_ble_eq_true (by kernel_rfl)) (by rw [V11_eq]; exact h)
theorem ok11 : fnOk Try.prog 11 = true := by kernel_rfl

/-! slices.pdqsortCmpFunc[depot/api.Fault] -/
def V15 (a0 : Option Addr) (a0n : Nat) (a0c : Nat) (a1 : Int) (a2 : Int) (a3 : Int) (a4 : Value) (w : World) (R : Value → World → Prop) : Prop :=
  lp (σ := Int × Int × Int × Bool × Bool × Unit) (fun s9 w1 k8 => match s9 with
    | (v3, v4, v5, v6, v7, _) =>
    pif (decide ((IntKind.wrap .i64 (v4 - v3)) ≤ 12)) (
      cl Try.prog 19 [.slice a0 a0n a0c, .int .i64 v3, .int .i64 v4, a4] w1 fun e13 w2 => e13 = Ending.returned (.tuple #[]) ∧
      R (.tuple #[]) w2) (
      pif (v5 == 0) (
        cl Try.prog 20 [.slice a0 a0n a0c, .int .i64 v3, .int .i64 v4, a4] w1 fun e16 w3 => e16 = Ending.returned (.tuple #[]) ∧
        R (.tuple #[]) w3) (
        jn (σ := Int × Unit) (fun k18 =>
          pif (!v6) (
            cl Try.prog 21 [.slice a0 a0n a0c, .int .i64 v3, .int .i64 v4, a4] w1 fun e22 w5 => e22 = Ending.returned (.tuple #[]) ∧
            k18 ((IntKind.wrap .i64 (v5 - 1)), ()) w5) (
            k18 (v5, ()) w1)) fun s19 w4 => match s19 with
        | (v17, _) =>
        cl Try.prog 22 [.slice a0 a0n a0c, .int .i64 v3, .int .i64 v4, a4] w4 fun e27 w6 => ∃ x25 : Int, ∃ x26 : Int, e27 = Ending.returned (.tuple #[.int .i64 x25, .int .i64 x26]) ∧
        jn (σ := Int × Int × Unit) (fun k30 =>
          pif (x26 == 2) (
            cl Try.prog 23 [.slice a0 a0n a0c, .int .i64 v3, .int .i64 v4, a4] w6 fun e34 w8 => e34 = Ending.returned (.tuple #[]) ∧
            k30 ((IntKind.wrap .i64 ((IntKind.wrap .i64 (v4 - 1)) - (IntKind.wrap .i64 (x25 - v3)))), 1, ()) w8) (
            k30 (x25, x26, ()) w6)) fun s31 w7 => match s31 with
        | (v28, v29, _) =>
        jn (σ := Unit) (fun k37 =>
          pif (cond (cond v6 v7 false) (v29 == 1) false) (
            cl Try.prog 24 [.slice a0 a0n a0c, .int .i64 v3, .int .i64 v4, a4] w7 fun e42 w10 => ∃ x41 : Bool, e42 = Ending.returned (.bool x41) ∧
            pif x41 (
              R (.tuple #[]) w10) (
              k37 (()) w10)) (
            k37 (()) w7)) fun s38 w9 => match s38 with
        | (_) =>
        gd (α := Addr) (decide (v3 > 0)) (fun k43 =>
          ixA a0 a0n (IntKind.wrap .i64 (v3 - 1)) 4 fun p44 =>
          k43 p44 (World.drew w9)) ⟨0, 0, none⟩ (World.drew w9) fun x45 _ =>
        gd (α := (Int × Int × Int × Int × Unit)) (decide (v3 > 0)) (fun k46 =>
          ldI .i64 (World.drew w9) (x45.add 0) fun x47 =>
          ldI .i64 (World.drew w9) (x45.add 1) fun x48 =>
          ldI .i64 (World.drew w9) (x45.add 2) fun x49 =>
          ldI .i64 (World.drew w9) (x45.add 3) fun x50 =>
          k46 (x47, x48, x49, x50, ()) (World.drew w9)) (0, 0, 0, 0, ()) (World.drew w9) fun x51 _ =>
        gd (α := Addr) (decide (v3 > 0)) (fun k52 =>
          ixA a0 a0n v28 4 fun p53 =>
          k52 p53 (World.drew w9)) ⟨0, 0, none⟩ (World.drew w9) fun x54 _ =>
        gd (α := (Int × Int × Int × Int × Unit)) (decide (v3 > 0)) (fun k55 =>
          ldI .i64 (World.drew w9) (x54.add 0) fun x56 =>
          ldI .i64 (World.drew w9) (x54.add 1) fun x57 =>
          ldI .i64 (World.drew w9) (x54.add 2) fun x58 =>
          ldI .i64 (World.drew w9) (x54.add 3) fun x59 =>
          k55 (x56, x57, x58, x59, ()) (World.drew w9)) (0, 0, 0, 0, ()) (World.drew w9) fun x60 _ =>
        gd (α := Int) (decide (v3 > 0)) (fun k61 =>
          clF Try.prog (a4) [.agg #[.int .i64 x51.1, .int .i64 x51.2.1, .int .i64 x51.2.2.1, .int .i64 x51.2.2.2.1], .agg #[.int .i64 x60.1, .int .i64 x60.2.1, .int .i64 x60.2.2.1, .int .i64 x60.2.2.2.1]] (World.drew w9) fun e63 w11 => ∃ x62 : Int, e63 = Ending.returned (.int .i64 x62) ∧
          k61 x62 w11) 0 (World.drew w9) fun x64 w12 =>
        pif (cond (decide (v3 > 0)) (!(decide (x64 < 0))) false) (
          cl Try.prog 25 [.slice a0 a0n a0c, .int .i64 v3, .int .i64 v4, .int .i64 v28, a4] w12 fun e67 w13 => ∃ x66 : Int, e67 = Ending.returned (.int .i64 x66) ∧
          k8 (x66, v4, v17, v6, v7, ()) w13) (
          cl Try.prog 26 [.slice a0 a0n a0c, .int .i64 v3, .int .i64 v4, .int .i64 v28, a4] w12 fun e72 w14 => ∃ x70 : Int, ∃ x71 : Bool, e72 = Ending.returned (.tuple #[.int .i64 x70, .bool x71]) ∧
          pif (decide ((IntKind.wrap .i64 (x70 - v3)) < (IntKind.wrap .i64 (v4 - x70)))) (
            cl Try.prog 15 [.slice a0 a0n a0c, .int .i64 v3, .int .i64 x70, .int .i64 v17, a4] w14 fun e79 w15 => e79 = Ending.returned (.tuple #[]) ∧
            k8 ((IntKind.wrap .i64 (x70 + 1)), v4, v17, (decide ((IntKind.wrap .i64 (x70 - v3)) ≥ (IntKind.wrap .i64 (Int.tdiv (IntKind.wrap .i64 (v4 - v3)) 8)))), x71, ()) w15) (
            cl Try.prog 15 [.slice a0 a0n a0c, .int .i64 (IntKind.wrap .i64 (x70 + 1)), .int .i64 v4, .int .i64 v17, a4] w14 fun e83 w16 => e83 = Ending.returned (.tuple #[]) ∧
            k8 (v3, x70, v17, (decide ((IntKind.wrap .i64 (v4 - x70)) ≥ (IntKind.wrap .i64 (Int.tdiv (IntKind.wrap .i64 (v4 - v3)) 8)))), x71, ()) w16))))) (a1, a2, a3, true, true, ()) w
def An15 : An := .seq (.leaf) (.seq (.leaf) (.blk (.loop [(1, .one (.int .i64)), (2, .one (.int .i64)), (3, .one (.int .i64)), (10, .one (.bool)), (11, .one (.bool))] (.blk (.seq (.leaf) (.seq (.seq (.leaf) (.cond (.seq (.leaf) (.leaf)) (.leaf))) (.seq (.seq (.leaf) (.cond (.seq (.leaf) (.leaf)) (.leaf))) (.seq (.join [(3, .one (.int .i64))] (.seq (.leaf) (.cond (.seq (.leaf) (.leaf)) (.leaf)))) (.seq (.leaf) (.seq (.join [(13, .one (.int .i64)), (14, .one (.int .i64))] (.seq (.leaf) (.cond (.seq (.leaf) (.seq (.leaf) (.leaf))) (.leaf)))) (.seq (.join [] (.seq (.leaf) (.cond (.seq (.leaf) (.cond (.leaf) (.leaf))) (.leaf)))) (.seq (.seq (.draw [0, 1, 3, 7, 7, 7, 39, 119, 247, 7, 7, 1543, 3591, 8191, 16383, 32767, 65535]) (.cond (.seq (.leaf) (.seq (.leaf) (.leaf))) (.leaf))) (.seq (.leaf) (.seq (.leaf) (.seq (.leaf) (.seq (.leaf) (.seq (.leaf) (.cond (.seq (.leaf) (.seq (.leaf) (.leaf))) (.seq (.leaf) (.seq (.leaf) (.leaf)))))))))))))))))))))
theorem V15_eq (a0 : Option Addr) (a0n : Nat) (a0c : Nat) (a1 : Int) (a2 : Int) (a3 : Int) (a4 : Value) (w : World) (R : Value → World → Prop) : evF Try.prog Try.f15 An15 [.slice a0 a0n a0c, .int .i64 a1, .int .i64 a2, .int .i64 a3, a4] w R = V15 a0 a0n a0c a1 a2 a3 a4 w R := by kernel_rfl
theorem V15_calls (a0 : Option Addr) (a0n : Nat) (a0c : Nat) (a1 : Int) (a2 : Int) (a3 : Int) (a4 : Value) (w : World) (R : Value → World → Prop) (h : V15 a0 a0n a0c a1 a2 a3 a4 w R) : Calls Try.prog 15 #[.slice a0 a0n a0c, .int .i64 a1, .int .i64 a2, .int .i64 a3, a4] w fun e w' => ∃ v, e = .returned v ∧ R v w' :=
  calls_of_ev (args := [.slice a0 a0n a0c, .int .i64 a1, .int .i64 a2, .int .i64 a3, a4]) Try.func15 (Nat.le_of_ble_eq_true (by kernel_rfl)) (by rw [V15_eq]; exact h)
theorem ok15 : fnOk Try.prog 15 = true := by kernel_rfl

/-! math/bits.Len -/
def V16 (a0 : Int) (w : World) (R : Value → World → Prop) : Prop :=
  pif false (
    cl Try.prog 27 [.int .u32 (IntKind.wrap .u32 a0)] w fun e4 w1 => ∃ x3 : Int, e4 = Ending.returned (.int .i64 x3) ∧
    R (.int .i64 x3) w1) (
    cl Try.prog 28 [.int .u64 a0] w fun e7 w2 => ∃ x6 : Int, e7 = Ending.returned (.int .i64 x6) ∧
    R (.int .i64 x6) w2)
def An16 : An := .seq (.leaf) (.seq (.cond (.seq (.leaf) (.leaf)) (.leaf)) (.seq (.leaf) (.leaf)))
theorem V16_eq (a0 : Int) (w : World) (R : Value → World → Prop) : evF Try.prog Try.f16 An16 [.int .u64 a0] w R = V16 a0 w R := by kernel_rfl
theorem V16_calls (a0 : Int) (w : World) (R : Value → World → Prop) (h : V16 a0 w R) : Calls Try.prog 16 #[.int .u64 a0] w fun e w' => ∃ v, e = .returned v ∧ R v w' :=
  calls_of_ev (args := [.int .u64 a0]) Try.func16 (Nat.le_of_ble_eq_true (by kernel_rfl)) (by rw [V16_eq]; exact h)
theorem ok16 : fnOk Try.prog 16 = true := by kernel_rfl

/-! slices.insertionSortCmpFunc[depot/api.Fault] -/
def V19 (a0 : Option Addr) (a0n : Nat) (a0c : Nat) (a1 : Int) (a2 : Int) (a3 : Value) (w : World) (R : Value → World → Prop) : Prop :=
  lp (σ := Int × Unit) (fun s4 w1 k3 => match s4 with
    | (v2, _) =>
    pif (decide (v2 < a2)) (
      lp (σ := Int × Unit) (fun s9 w2 k8 => match s9 with
        | (v7, _) =>
        gd (α := Addr) (decide (v7 > a1)) (fun k10 =>
          ixA a0 a0n v7 4 fun p11 =>
          k10 p11 (World.drew w2)) ⟨0, 0, none⟩ (World.drew w2) fun x12 _ =>
        gd (α := (Int × Int × Int × Int × Unit)) (decide (v7 > a1)) (fun k13 =>
          ldI .i64 (World.drew w2) (x12.add 0) fun x14 =>
          ldI .i64 (World.drew w2) (x12.add 1) fun x15 =>
          ldI .i64 (World.drew w2) (x12.add 2) fun x16 =>
          ldI .i64 (World.drew w2) (x12.add 3) fun x17 =>
          k13 (x14, x15, x16, x17, ()) (World.drew w2)) (0, 0, 0, 0, ()) (World.drew w2) fun x18 _ =>
        gd (α := Addr) (decide (v7 > a1)) (fun k19 =>
          ixA a0 a0n (IntKind.wrap .i64 (v7 - 1)) 4 fun p20 =>
          k19 p20 (World.drew w2)) ⟨0, 0, none⟩ (World.drew w2) fun x21 _ =>
        gd (α := (Int × Int × Int × Int × Unit)) (decide (v7 > a1)) (fun k22 =>
          ldI .i64 (World.drew w2) (x21.add 0) fun x23 =>
          ldI .i64 (World.drew w2) (x21.add 1) fun x24 =>
          ldI .i64 (World.drew w2) (x21.add 2) fun x25 =>
          ldI .i64 (World.drew w2) (x21.add 3) fun x26 =>
          k22 (x23, x24, x25, x26, ()) (World.drew w2)) (0, 0, 0, 0, ()) (World.drew w2) fun x27 _ =>
        gd (α := Int) (decide (v7 > a1)) (fun k28 =>
          clF Try.prog (a3) [.agg #[.int .i64 x18.1, .int .i64 x18.2.1, .int .i64 x18.2.2.1, .int .i64 x18.2.2.2.1], .agg #[.int .i64 x27.1, .int .i64 x27.2.1, .int .i64 x27.2.2.1, .int .i64 x27.2.2.2.1]] (World.drew w2) fun e30 w3 => ∃ x29 : Int, e30 = Ending.returned (.int .i64 x29) ∧
          k28 x29 w3) 0 (World.drew w2) fun x31 w4 =>
        pif (cond (decide (v7 > a1)) (decide (x31 < 0)) false) (
          ixA a0 a0n (IntKind.wrap .i64 (v7 - 1)) 4 fun p32 =>
          ldI .i64 (World.drew w4) (p32.add 0) fun x33 =>
          ldI .i64 (World.drew w4) (p32.add 1) fun x34 =>
          ldI .i64 (World.drew w4) (p32.add 2) fun x35 =>
          ldI .i64 (World.drew w4) (p32.add 3) fun x36 =>
          ixA a0 a0n v7 4 fun p37 =>
          ldI .i64 (World.drew w4) (p37.add 0) fun x38 =>
          ldI .i64 (World.drew w4) (p37.add 1) fun x39 =>
          ldI .i64 (World.drew w4) (p37.add 2) fun x40 =>
          ldI .i64 (World.drew w4) (p37.add 3) fun x41 =>
          ixA a0 a0n v7 4 fun p42 =>
          st (World.drew w4) (p42.add 0) (.int .i64 x33) fun w5 =>
          st w5 (p42.add 1) (.int .i64 x34) fun w6 =>
          st w6 (p42.add 2) (.int .i64 x35) fun w7 =>
          st w7 (p42.add 3) (.int .i64 x36) fun w8 =>
          ixA a0 a0n (IntKind.wrap .i64 (v7 - 1)) 4 fun p43 =>
          st w8 (p43.add 0) (.int .i64 x38) fun w9 =>
          st w9 (p43.add 1) (.int .i64 x39) fun w10 =>
          st w10 (p43.add 2) (.int .i64 x40) fun w11 =>
          st w11 (p43.add 3) (.int .i64 x41) fun w12 =>
          k8 ((IntKind.wrap .i64 (v7 - 1)), ()) w12) (
          k3 ((IntKind.wrap .i64 (v2 + 1)), ()) w4)) (v2, ()) w1) (
      R (.tuple #[]) w1)) ((IntKind.wrap .i64 (a1 + 1)), ()) w
def An19 : An := .seq (.leaf) (.blk (.loop [(8, .one (.int .i64))] (.seq (.seq (.leaf) (.cond (.leaf) (.leaf))) (.seq (.blk (.seq (.leaf) (.blk (.loop [(9, .one (.int .i64))] (.seq (.seq (.draw [0, 0, 3, 7, 15, 15, 15, 111, 239, 15, 15, 1039, 3599, 7695, 16383, 32767, 65535]) (.cond (.leaf) (.leaf))) (.seq (.blk (.draw [0, 0, 0, 0, 8, 0, 0, 64, 224, 480, 0, 0, 3072, 7168, 16355, 32739, 65535, 131071])) (.leaf))))))) (.leaf)))))
theorem V19_eq (a0 : Option Addr) (a0n : Nat) (a0c : Nat) (a1 : Int) (a2 : Int) (a3 : Value) (w : World) (R : Value → World → Prop) : evF Try.prog Try.f19 An19 [.slice a0 a0n a0c, .int .i64 a1, .int .i64 a2, a3] w R = V19 a0 a0n a0c a1 a2 a3 w R := by kernel_rfl
theorem V19_calls (a0 : Option Addr) (a0n : Nat) (a0c : Nat) (a1 : Int) (a2 : Int) (a3 : Value) (w : World) (R : Value → World → Prop) (h : V19 a0 a0n a0c a1 a2 a3 w R) : Calls Try.prog 19 #[.slice a0 a0n a0c, .int .i64 a1, .int .i64 a2, a3] w fun e w' => ∃ v, e = .returned v ∧ R v w' :=
  calls_of_ev (args := [.slice a0 a0n a0c, .int .i64 a1, .int .i64 a2, a3]) Try.func19 (Nat.le_of_ble_eq_true (by kernel_rfl)) (by rw [V19_eq]; exact h)
theorem ok19 : fnOk Try.prog 19 = true := by kernel_rfl

/-! slices.heapSortCmpFunc[depot/api.Fault] -/
def V20 (a0 : Option Addr) (a0n : Nat) (a0c : Nat) (a1 : Int) (a2 : Int) (a3 : Value) (w : World) (R : Value → World → Prop) : Prop :=
  lp (σ := Int × Unit) (fun s7 w1 k6 => match s7 with
    | (v5, _) =>
    pif (decide (v5 ≥ 0)) (
      cl Try.prog 30 [.slice a0 a0n a0c, .int .i64 v5, .int .i64 (IntKind.wrap .i64 (a2 - a1)), .int .i64 a1, a3] w1 fun e10 w2 => e10 = Ending.returned (.tuple #[]) ∧
      k6 ((IntKind.wrap .i64 (v5 - 1)), ()) w2) (
      lp (σ := Int × Unit) (fun s15 w3 k14 => match s15 with
        | (v13, _) =>
        pif (decide (v13 ≥ 0)) (
          ixA a0 a0n (IntKind.wrap .i64 (a1 + v13)) 4 fun p17 =>
          ldI .i64 (World.drew w3) (p17.add 0) fun x18 =>
          ldI .i64 (World.drew w3) (p17.add 1) fun x19 =>
          ldI .i64 (World.drew w3) (p17.add 2) fun x20 =>
          ldI .i64 (World.drew w3) (p17.add 3) fun x21 =>
          ixA a0 a0n a1 4 fun p22 =>
          ldI .i64 (World.drew w3) (p22.add 0) fun x23 =>
          ldI .i64 (World.drew w3) (p22.add 1) fun x24 =>
          ldI .i64 (World.drew w3) (p22.add 2) fun x25 =>
          ldI .i64 (World.drew w3) (p22.add 3) fun x26 =>
          ixA a0 a0n a1 4 fun p27 =>
          st (World.drew w3) (p27.add 0) (.int .i64 x18) fun w4 =>
          st w4 (p27.add 1) (.int .i64 x19) fun w5 =>
          st w5 (p27.add 2) (.int .i64 x20) fun w6 =>
          st w6 (p27.add 3) (.int .i64 x21) fun w7 =>
          ixA a0 a0n (IntKind.wrap .i64 (a1 + v13)) 4 fun p28 =>
          st w7 (p28.add 0) (.int .i64 x23) fun w8 =>
          st w8 (p28.add 1) (.int .i64 x24) fun w9 =>
          st w9 (p28.add 2) (.int .i64 x25) fun w10 =>
          st w10 (p28.add 3) (.int .i64 x26) fun w11 =>
          cl Try.prog 30 [.slice a0 a0n a0c, .int .i64 0, .int .i64 v13, .int .i64 a1, a3] w11 fun e30 w12 => e30 = Ending.returned (.tuple #[]) ∧
          k14 ((IntKind.wrap .i64 (v13 - 1)), ()) w12) (
          R (.tuple #[]) w3)) ((IntKind.wrap .i64 ((IntKind.wrap .i64 (a2 - a1)) - 1)), ()) w1)) ((IntKind.wrap .i64 (Int.tdiv (IntKind.wrap .i64 ((IntKind.wrap .i64 (a2 - a1)) - 1)) 2)), ()) w
def An20 : An := .seq (.leaf) (.seq (.leaf) (.seq (.leaf) (.seq (.seq (.leaf) (.blk (.loop [(11, .one (.int .i64))] (.seq (.seq (.leaf) (.cond (.leaf) (.leaf))) (.seq (.blk (.leaf)) (.leaf)))))) (.seq (.leaf) (.blk (.loop [(12, .one (.int .i64))] (.seq (.seq (.leaf) (.cond (.leaf) (.leaf))) (.seq (.blk (.seq (.draw [0, 0, 0, 0, 0, 24, 0, 0, 0, 384, 960, 1984, 0, 0, 12288, 28672, 65475, 131011, 262143, 524287]) (.leaf))) (.leaf)))))))))
theorem V20_eq (a0 : Option Addr) (a0n : Nat) (a0c : Nat) (a1 : Int) (a2 : Int) (a3 : Value) (w : World) (R : Value → World → Prop) : evF Try.prog Try.f20 An20 [.slice a0 a0n a0c, .int .i64 a1, .int .i64 a2, a3] w R = V20 a0 a0n a0c a1 a2 a3 w R := by kernel_rfl
theorem V20_calls (a0 : Option Addr) (a0n : Nat) (a0c : Nat) (a1 : Int) (a2 : Int) (a3 : Value) (w : World) (R : Value → World → Prop) (h : V20 a0 a0n a0c a1 a2 a3 w R) : Calls Try.prog 20 #[.slice a0 a0n a0c, .int .i64 a1, .int .i64 a2, a3] w fun e w' => ∃ v, e = .returned v ∧ R v w' :=
  calls_of_ev (args := [.slice a0 a0n a0c, .int .i64 a1, .int .i64 a2, a3]) Try.func20 (Nat.le_of_ble_eq_true (by kernel_rfl)) (by rw [V20_eq]; exact h)
theorem ok20 : fnOk Try.prog 20 = true := by kernel_rfl

/-! slices.breakPatternsCmpFunc[depot/api.Fault] -/
def V21 (a0 : Option Addr) (a0n : Nat) (a0c : Nat) (a1 : Int) (a2 : Int) (a3 : Value) (w : World) (R : Value → World → Prop) : Prop :=
  pif (decide ((IntKind.wrap .i64 (a2 - a1)) ≥ 8)) (
    alc w [.int .u64 0] 58 fun b4 w1 =>
    st w1 ((⟨b4, 0, none⟩ : Addr).add 0) (.int .u64 (IntKind.wrap .u64 (IntKind.wrap .i64 (a2 - a1)))) fun w2 =>
    cl Try.prog 31 [.int .i64 (IntKind.wrap .i64 (a2 - a1))] w2 fun e7 w3 => ∃ x6 : Int, e7 = Ending.returned (.int .u64 x6) ∧
    lp (σ := Int × Unit) (fun s11 w4 k10 => match s11 with
      | (v9, _) =>
      pif (decide (v9 ≤ (IntKind.wrap .i64 ((IntKind.wrap .i64 (a1 + (IntKind.wrap .i64 ((IntKind.wrap .i64 (Int.tdiv (IntKind.wrap .i64 (a2 - a1)) 4)) * 2)))) + 1)))) (
        cl Try.prog 32 [.pointer (some (⟨b4, 0, none⟩ : Addr))] w4 fun e15 w5 => ∃ x14 : Int, e15 = Ending.returned (.int .u64 x14) ∧
        jn (σ := Int × Unit) (fun k17 =>
          pif (decide ((IntKind.wrap .i64 (bits .and .u64 x14 (IntKind.wrap .u64 (x6 - 1)))) ≥ (IntKind.wrap .i64 (a2 - a1)))) (
            k17 ((IntKind.wrap .i64 ((IntKind.wrap .i64 (bits .and .u64 x14 (IntKind.wrap .u64 (x6 - 1)))) - (IntKind.wrap .i64 (a2 - a1)))), ()) w5) (
            k17 ((IntKind.wrap .i64 (bits .and .u64 x14 (IntKind.wrap .u64 (x6 - 1)))), ()) w5)) fun s18 w6 => match s18 with
        | (v16, _) =>
        ixA a0 a0n (IntKind.wrap .i64 (a1 + v16)) 4 fun p21 =>
        ldI .i64 (World.drew w6) (p21.add 0) fun x22 =>
        ldI .i64 (World.drew w6) (p21.add 1) fun x23 =>
        ldI .i64 (World.drew w6) (p21.add 2) fun x24 =>
        ldI .i64 (World.drew w6) (p21.add 3) fun x25 =>
        ixA a0 a0n v9 4 fun p26 =>
        ldI .i64 (World.drew w6) (p26.add 0) fun x27 =>
        ldI .i64 (World.drew w6) (p26.add 1) fun x28 =>
        ldI .i64 (World.drew w6) (p26.add 2) fun x29 =>
        ldI .i64 (World.drew w6) (p26.add 3) fun x30 =>
        ixA a0 a0n v9 4 fun p31 =>
        st (World.drew w6) (p31.add 0) (.int .i64 x22) fun w7 =>
        st w7 (p31.add 1) (.int .i64 x23) fun w8 =>
        st w8 (p31.add 2) (.int .i64 x24) fun w9 =>
        st w9 (p31.add 3) (.int .i64 x25) fun w10 =>
        ixA a0 a0n (IntKind.wrap .i64 (a1 + v16)) 4 fun p32 =>
        st w10 (p32.add 0) (.int .i64 x27) fun w11 =>
        st w11 (p32.add 1) (.int .i64 x28) fun w12 =>
        st w12 (p32.add 2) (.int .i64 x29) fun w13 =>
        st w13 (p32.add 3) (.int .i64 x30) fun w14 =>
        k10 ((IntKind.wrap .i64 (v9 + 1)), ()) w14) (
        R (.tuple #[]) w4)) ((IntKind.wrap .i64 ((IntKind.wrap .i64 (a1 + (IntKind.wrap .i64 ((IntKind.wrap .i64 (Int.tdiv (IntKind.wrap .i64 (a2 - a1)) 4)) * 2)))) - 1)), ()) w3) (
    R (.tuple #[]) w)
def An21 : An := .seq (.leaf) (.seq (.leaf) (.cond (.seq (.leaf) (.seq (.leaf) (.seq (.leaf) (.blk (.loop [(11, .one (.int .i64))] (.seq (.seq (.leaf) (.cond (.leaf) (.leaf))) (.seq (.blk (.seq (.leaf) (.seq (.join [(12, .one (.int .i64))] (.seq (.leaf) (.cond (.leaf) (.leaf)))) (.draw [0, 0, 0, 0, 0, 24, 0, 0, 0, 384, 960, 1984, 0, 0, 12288, 28672, 65475, 131011, 262143, 524287])))) (.leaf)))))))) (.leaf)))
theorem V21_eq (a0 : Option Addr) (a0n : Nat) (a0c : Nat) (a1 : Int) (a2 : Int) (a3 : Value) (w : World) (R : Value → World → Prop) : evF Try.prog Try.f21 An21 [.slice a0 a0n a0c, .int .i64 a1, .int .i64 a2, a3] w R = V21 a0 a0n a0c a1 a2 a3 w R := by kernel_rfl
theorem V21_calls (a0 : Option Addr) (a0n : Nat) (a0c : Nat) (a1 : Int) (a2 : Int) (a3 : Value) (w : World) (R : Value → World → Prop) (h : V21 a0 a0n a0c a1 a2 a3 w R) : Calls Try.prog 21 #[.slice a0 a0n a0c, .int .i64 a1, .int .i64 a2, a3] w fun e w' => ∃ v, e = .returned v ∧ R v w' :=
  calls_of_ev (args := [.slice a0 a0n a0c, .int .i64 a1, .int .i64 a2, a3]) Try.func21 (Nat.le_of_ble_eq_true (by kernel_rfl)) (by rw [V21_eq]; exact h)
theorem ok21 : fnOk Try.prog 21 = true := by kernel_rfl

/-! slices.choosePivotCmpFunc[depot/api.Fault] -/
def V22 (a0 : Option Addr) (a0n : Nat) (a0c : Nat) (a1 : Int) (a2 : Int) (a3 : Value) (w : World) (R : Value → World → Prop) : Prop :=
  alc w [.int .i64 0] 3 fun b4 w1 =>
  jn (σ := Int × Unit) (fun k9 =>
    pif (decide ((IntKind.wrap .i64 (a2 - a1)) ≥ 8)) (
      jn (σ := Int × Int × Int × Unit) (fun k15 =>
        pif (decide ((IntKind.wrap .i64 (a2 - a1)) ≥ 50)) (
          cl Try.prog 33 [.slice a0 a0n a0c, .int .i64 (IntKind.wrap .i64 (a1 + (IntKind.wrap .i64 ((IntKind.wrap .i64 (Int.tdiv (IntKind.wrap .i64 (a2 - a1)) 4)) * 1)))), .pointer (some (⟨b4, 0, none⟩ : Addr)), a3] w1 fun e20 w4 => ∃ x19 : Int, e20 = Ending.returned (.int .i64 x19) ∧
          cl Try.prog 33 [.slice a0 a0n a0c, .int .i64 (IntKind.wrap .i64 (a1 + (IntKind.wrap .i64 ((IntKind.wrap .i64 (Int.tdiv (IntKind.wrap .i64 (a2 - a1)) 4)) * 2)))), .pointer (some (⟨b4, 0, none⟩ : Addr)), a3] w4 fun e23 w5 => ∃ x22 : Int, e23 = Ending.returned (.int .i64 x22) ∧
          cl Try.prog 33 [.slice a0 a0n a0c, .int .i64 (IntKind.wrap .i64 (a1 + (IntKind.wrap .i64 ((IntKind.wrap .i64 (Int.tdiv (IntKind.wrap .i64 (a2 - a1)) 4)) * 3)))), .pointer (some (⟨b4, 0, none⟩ : Addr)), a3] w5 fun e26 w6 => ∃ x25 : Int, e26 = Ending.returned (.int .i64 x25) ∧
          k15 (x19, x22, x25, ()) w6) (
          k15 ((IntKind.wrap .i64 (a1 + (IntKind.wrap .i64 ((IntKind.wrap .i64 (Int.tdiv (IntKind.wrap .i64 (a2 - a1)) 4)) * 1)))), (IntKind.wrap .i64 (a1 + (IntKind.wrap .i64 ((IntKind.wrap .i64 (Int.tdiv (IntKind.wrap .i64 (a2 - a1)) 4)) * 2)))), (IntKind.wrap .i64 (a1 + (IntKind.wrap .i64 ((IntKind.wrap .i64 (Int.tdiv (IntKind.wrap .i64 (a2 - a1)) 4)) * 3)))), ()) w1)) fun s16 w3 => match s16 with
      | (v12, v13, v14, _) =>
      cl Try.prog 34 [.slice a0 a0n a0c, .int .i64 v12, .int .i64 v13, .int .i64 v14, .pointer (some (⟨b4, 0, none⟩ : Addr)), a3] w3 fun e29 w7 => ∃ x28 : Int, e29 = Ending.returned (.int .i64 x28) ∧
      k9 (x28, ()) w7) (
      k9 ((IntKind.wrap .i64 (a1 + (IntKind.wrap .i64 ((IntKind.wrap .i64 (Int.tdiv (IntKind.wrap .i64 (a2 - a1)) 4)) * 2)))), ()) w1)) fun s10 w2 => match s10 with
  | (v8, _) =>
  ldI .i64 w2 (⟨b4, 0, none⟩ : Addr) fun x31 =>
  pif (x31 == 0) (
    R (.tuple #[.int .i64 v8, .int .i64 1]) w2) (
    pif (x31 == 12) (
      R (.tuple #[.int .i64 v8, .int .i64 2]) w2) (
      R (.tuple #[.int .i64 v8, .int .i64 0]) w2))
def An22 : An := .seq (.leaf) (.seq (.leaf) (.seq (.leaf) (.seq (.leaf) (.seq (.leaf) (.seq (.leaf) (.seq (.join [(13, .one (.int .i64))] (.seq (.leaf) (.cond (.seq (.join [(12, .one (.int .i64)), (13, .one (.int .i64)), (14, .one (.int .i64))] (.seq (.leaf) (.cond (.seq (.leaf) (.seq (.leaf) (.leaf))) (.leaf)))) (.leaf)) (.leaf)))) (.seq (.leaf) (.blk (.seq (.leaf) (.cond (.seq (.leaf) (.leaf)) (.seq (.leaf) (.cond (.seq (.leaf) (.leaf)) (.seq (.leaf) (.leaf))))))))))))))
theorem V22_eq (a0 : Option Addr) (a0n : Nat) (a0c : Nat) (a1 : Int) (a2 : Int) (a3 : Value) (w : World) (R : Value → World → Prop) : evF Try.prog Try.f22 An22 [.slice a0 a0n a0c, .int .i64 a1, .int .i64 a2, a3] w R = V22 a0 a0n a0c a1 a2 a3 w R := by kernel_rfl
theorem V22_calls (a0 : Option Addr) (a0n : Nat) (a0c : Nat) (a1 : Int) (a2 : Int) (a3 : Value) (w : World) (R : Value → World → Prop) (h : V22 a0 a0n a0c a1 a2 a3 w R) : Calls Try.prog 22 #[.slice a0 a0n a0c, .int .i64 a1, .int .i64 a2, a3] w fun e w' => ∃ v, e = .returned v ∧ R v w' :=
  calls_of_ev (args := [.slice a0 a0n a0c, .int .i64 a1, .int .i64 a2, a3]) Try.func22 (Nat.le_of_ble_eq_true (by kernel_rfl)) (by rw [V22_eq]; exact h)
theorem ok22 : fnOk Try.prog 22 = true := by kernel_rfl

/-! slices.reverseRangeCmpFunc[depot/api.Fault] -/
def V23 (a0 : Option Addr) (a0n : Nat) (a0c : Nat) (a1 : Int) (a2 : Int) (a3 : Value) (w : World) (R : Value → World → Prop) : Prop :=
  lp (σ := Int × Int × Unit) (fun s6 w1 k5 => match s6 with
    | (v3, v4, _) =>
    pif (decide (v3 < v4)) (
      ixA a0 a0n v4 4 fun p8 =>
      ldI .i64 (World.drew w1) (p8.add 0) fun x9 =>
      ldI .i64 (World.drew w1) (p8.add 1) fun x10 =>
      ldI .i64 (World.drew w1) (p8.add 2) fun x11 =>
      ldI .i64 (World.drew w1) (p8.add 3) fun x12 =>
      ixA a0 a0n v3 4 fun p13 =>
      ldI .i64 (World.drew w1) (p13.add 0) fun x14 =>
      ldI .i64 (World.drew w1) (p13.add 1) fun x15 =>
      ldI .i64 (World.drew w1) (p13.add 2) fun x16 =>
      ldI .i64 (World.drew w1) (p13.add 3) fun x17 =>
      ixA a0 a0n v3 4 fun p18 =>
      st (World.drew w1) (p18.add 0) (.int .i64 x9) fun w2 =>
      st w2 (p18.add 1) (.int .i64 x10) fun w3 =>
      st w3 (p18.add 2) (.int .i64 x11) fun w4 =>
      st w4 (p18.add 3) (.int .i64 x12) fun w5 =>
      ixA a0 a0n v4 4 fun p19 =>
      st w5 (p19.add 0) (.int .i64 x14) fun w6 =>
      st w6 (p19.add 1) (.int .i64 x15) fun w7 =>
      st w7 (p19.add 2) (.int .i64 x16) fun w8 =>
      st w8 (p19.add 3) (.int .i64 x17) fun w9 =>
      k5 ((IntKind.wrap .i64 (v3 + 1)), (IntKind.wrap .i64 (v4 - 1)), ()) w9) (
      R (.tuple #[]) w1)) (a1, (IntKind.wrap .i64 (a2 - 1)), ()) w
def An23 : An := .seq (.leaf) (.seq (.leaf) (.blk (.loop [(8, .one (.int .i64)), (9, .one (.int .i64))] (.seq (.seq (.leaf) (.cond (.leaf) (.leaf))) (.blk (.seq (.draw [0, 0, 0, 0, 0, 0, 48, 112, 0, 0, 768, 1792, 4083, 8179, 16383, 32767]) (.seq (.leaf) (.leaf))))))))
theorem V23_eq (a0 : Option Addr) (a0n : Nat) (a0c : Nat) (a1 : Int) (a2 : Int) (a3 : Value) (w : World) (R : Value → World → Prop) : evF Try.prog Try.f23 An23 [.slice a0 a0n a0c, .int .i64 a1, .int .i64 a2, a3] w R = V23 a0 a0n a0c a1 a2 a3 w R := by kernel_rfl
theorem V23_calls (a0 : Option Addr) (a0n : Nat) (a0c : Nat) (a1 : Int) (a2 : Int) (a3 : Value) (w : World) (R : Value → World → Prop) (h : V23 a0 a0n a0c a1 a2 a3 w R) : Calls Try.prog 23 #[.slice a0 a0n a0c, .int .i64 a1, .int .i64 a2, a3] w fun e w' => ∃ v, e = .returned v ∧ R v w' :=
  calls_of_ev (args := [.slice a0 a0n a0c, .int .i64 a1, .int .i64 a2, a3]) Try.func23 (Nat.le_of_ble_eq_true (by kernel_rfl)) (by rw [V23_eq]; exact h)
theorem ok23 : fnOk Try.prog 23 = true := by kernel_rfl

/-! slices.partialInsertionSortCmpFunc[depot/api.Fault] -/
def V24 (a0 : Option Addr) (a0n : Nat) (a0c : Nat) (a1 : Int) (a2 : Int) (a3 : Value) (w : World) (R : Value → World → Prop) : Prop :=
  lp (σ := Int × Int × Unit) (fun s7 w1 k6 => match s7 with
    | (v4, v5, _) =>
    pif (decide (v5 < 5)) (
      jn (σ := Int × Unit) (fun k10 =>
        lp (σ := Int × Unit) (fun s14 w3 k13 => match s14 with
          | (v12, _) =>
          gd (α := Addr) (decide (v12 < a2)) (fun k15 =>
            ixA a0 a0n v12 4 fun p16 =>
            k15 p16 (World.drew w3)) ⟨0, 0, none⟩ (World.drew w3) fun x17 _ =>
          gd (α := (Int × Int × Int × Int × Unit)) (decide (v12 < a2)) (fun k18 =>
            ldI .i64 (World.drew w3) (x17.add 0) fun x19 =>
            ldI .i64 (World.drew w3) (x17.add 1) fun x20 =>
            ldI .i64 (World.drew w3) (x17.add 2) fun x21 =>
            ldI .i64 (World.drew w3) (x17.add 3) fun x22 =>
            k18 (x19, x20, x21, x22, ()) (World.drew w3)) (0, 0, 0, 0, ()) (World.drew w3) fun x23 _ =>
          gd (α := Addr) (decide (v12 < a2)) (fun k24 =>
            ixA a0 a0n (IntKind.wrap .i64 (v12 - 1)) 4 fun p25 =>
            k24 p25 (World.drew w3)) ⟨0, 0, none⟩ (World.drew w3) fun x26 _ =>
          gd (α := (Int × Int × Int × Int × Unit)) (decide (v12 < a2)) (fun k27 =>
            ldI .i64 (World.drew w3) (x26.add 0) fun x28 =>
            ldI .i64 (World.drew w3) (x26.add 1) fun x29 =>
            ldI .i64 (World.drew w3) (x26.add 2) fun x30 =>
            ldI .i64 (World.drew w3) (x26.add 3) fun x31 =>
            k27 (x28, x29, x30, x31, ()) (World.drew w3)) (0, 0, 0, 0, ()) (World.drew w3) fun x32 _ =>
          gd (α := Int) (decide (v12 < a2)) (fun k33 =>
            clF Try.prog (a3) [.agg #[.int .i64 x23.1, .int .i64 x23.2.1, .int .i64 x23.2.2.1, .int .i64 x23.2.2.2.1], .agg #[.int .i64 x32.1, .int .i64 x32.2.1, .int .i64 x32.2.2.1, .int .i64 x32.2.2.2.1]] (World.drew w3) fun e35 w4 => ∃ x34 : Int, e35 = Ending.returned (.int .i64 x34) ∧
            k33 x34 w4) 0 (World.drew w3) fun x36 w5 =>
          pif (cond (decide (v12 < a2)) (!(decide (x36 < 0))) false) (
            k13 ((IntKind.wrap .i64 (v12 + 1)), ()) w5) (
            pif (v12 == a2) (
              R (.bool true) w5) (
              pif (decide ((IntKind.wrap .i64 (a2 - a1)) < 50)) (
                R (.bool false) w5) (
                ixA a0 a0n (IntKind.wrap .i64 (v12 - 1)) 4 fun p42 =>
                ldI .i64 (World.drew w5) (p42.add 0) fun x43 =>
                ldI .i64 (World.drew w5) (p42.add 1) fun x44 =>
                ldI .i64 (World.drew w5) (p42.add 2) fun x45 =>
                ldI .i64 (World.drew w5) (p42.add 3) fun x46 =>
                ixA a0 a0n v12 4 fun p47 =>
                ldI .i64 (World.drew w5) (p47.add 0) fun x48 =>
                ldI .i64 (World.drew w5) (p47.add 1) fun x49 =>
                ldI .i64 (World.drew w5) (p47.add 2) fun x50 =>
                ldI .i64 (World.drew w5) (p47.add 3) fun x51 =>
                ixA a0 a0n v12 4 fun p52 =>
                st (World.drew w5) (p52.add 0) (.int .i64 x43) fun w6 =>
                st w6 (p52.add 1) (.int .i64 x44) fun w7 =>
                st w7 (p52.add 2) (.int .i64 x45) fun w8 =>
                st w8 (p52.add 3) (.int .i64 x46) fun w9 =>
                ixA a0 a0n (IntKind.wrap .i64 (v12 - 1)) 4 fun p53 =>
                st w9 (p53.add 0) (.int .i64 x48) fun w10 =>
                st w10 (p53.add 1) (.int .i64 x49) fun w11 =>
                st w11 (p53.add 2) (.int .i64 x50) fun w12 =>
                st w12 (p53.add 3) (.int .i64 x51) fun w13 =>
                jn (σ := Unit) (fun k54 =>
                  pif (decide ((IntKind.wrap .i64 (v12 - a1)) ≥ 2)) (
                    lp (σ := Int × Unit) (fun s60 w15 k59 => match s60 with
                      | (v58, _) =>
                      pif (decide (v58 ≥ 1)) (
                        ixA a0 a0n v58 4 fun p62 =>
                        ldI .i64 (World.drew w15) (p62.add 0) fun x63 =>
                        ldI .i64 (World.drew w15) (p62.add 1) fun x64 =>
                        ldI .i64 (World.drew w15) (p62.add 2) fun x65 =>
                        ldI .i64 (World.drew w15) (p62.add 3) fun x66 =>
                        ixA a0 a0n (IntKind.wrap .i64 (v58 - 1)) 4 fun p67 =>
                        ldI .i64 (World.drew w15) (p67.add 0) fun x68 =>
                        ldI .i64 (World.drew w15) (p67.add 1) fun x69 =>
                        ldI .i64 (World.drew w15) (p67.add 2) fun x70 =>
                        ldI .i64 (World.drew w15) (p67.add 3) fun x71 =>
                        clF Try.prog (a3) [.agg #[.int .i64 x63, .int .i64 x64, .int .i64 x65, .int .i64 x66], .agg #[.int .i64 x68, .int .i64 x69, .int .i64 x70, .int .i64 x71]] (World.drew w15) fun e73 w16 => ∃ x72 : Int, e73 = Ending.returned (.int .i64 x72) ∧
                        pif (!(decide (x72 < 0))) (
                          k54 (()) w16) (
                          ixA a0 a0n (IntKind.wrap .i64 (v58 - 1)) 4 fun p74 =>
                          ldI .i64 (World.drew w16) (p74.add 0) fun x75 =>
                          ldI .i64 (World.drew w16) (p74.add 1) fun x76 =>
                          ldI .i64 (World.drew w16) (p74.add 2) fun x77 =>
                          ldI .i64 (World.drew w16) (p74.add 3) fun x78 =>
                          ixA a0 a0n v58 4 fun p79 =>
                          ldI .i64 (World.drew w16) (p79.add 0) fun x80 =>
                          ldI .i64 (World.drew w16) (p79.add 1) fun x81 =>
                          ldI .i64 (World.drew w16) (p79.add 2) fun x82 =>
                          ldI .i64 (World.drew w16) (p79.add 3) fun x83 =>
                          ixA a0 a0n v58 4 fun p84 =>
                          st (World.drew w16) (p84.add 0) (.int .i64 x75) fun w17 =>
                          st w17 (p84.add 1) (.int .i64 x76) fun w18 =>
                          st w18 (p84.add 2) (.int .i64 x77) fun w19 =>
                          st w19 (p84.add 3) (.int .i64 x78) fun w20 =>
                          ixA a0 a0n (IntKind.wrap .i64 (v58 - 1)) 4 fun p85 =>
                          st w20 (p85.add 0) (.int .i64 x80) fun w21 =>
                          st w21 (p85.add 1) (.int .i64 x81) fun w22 =>
                          st w22 (p85.add 2) (.int .i64 x82) fun w23 =>
                          st w23 (p85.add 3) (.int .i64 x83) fun w24 =>
                          k59 ((IntKind.wrap .i64 (v58 - 1)), ()) w24)) (
                        k54 (()) w15)) ((IntKind.wrap .i64 (v12 - 1)), ()) w13) (
                    k54 (()) w13)) fun s55 w14 => match s55 with
                | (_) =>
                pif (decide ((IntKind.wrap .i64 (a2 - v12)) ≥ 2)) (
                  lp (σ := Int × Unit) (fun s91 w25 k90 => match s91 with
                    | (v89, _) =>
                    pif (decide (v89 < a2)) (
                      ixA a0 a0n v89 4 fun p93 =>
                      ldI .i64 (World.drew w25) (p93.add 0) fun x94 =>
                      ldI .i64 (World.drew w25) (p93.add 1) fun x95 =>
                      ldI .i64 (World.drew w25) (p93.add 2) fun x96 =>
                      ldI .i64 (World.drew w25) (p93.add 3) fun x97 =>
                      ixA a0 a0n (IntKind.wrap .i64 (v89 - 1)) 4 fun p98 =>
                      ldI .i64 (World.drew w25) (p98.add 0) fun x99 =>
                      ldI .i64 (World.drew w25) (p98.add 1) fun x100 =>
                      ldI .i64 (World.drew w25) (p98.add 2) fun x101 =>
                      ldI .i64 (World.drew w25) (p98.add 3) fun x102 =>
                      clF Try.prog (a3) [.agg #[.int .i64 x94, .int .i64 x95, .int .i64 x96, .int .i64 x97], .agg #[.int .i64 x99, .int .i64 x100, .int .i64 x101, .int .i64 x102]] (World.drew w25) fun e104 w26 => ∃ x103 : Int, e104 = Ending.returned (.int .i64 x103) ∧
                      pif (!(decide (x103 < 0))) (
                        k10 (v12, ()) w26) (
                        ixA a0 a0n (IntKind.wrap .i64 (v89 - 1)) 4 fun p105 =>
                        ldI .i64 (World.drew w26) (p105.add 0) fun x106 =>
                        ldI .i64 (World.drew w26) (p105.add 1) fun x107 =>
                        ldI .i64 (World.drew w26) (p105.add 2) fun x108 =>
                        ldI .i64 (World.drew w26) (p105.add 3) fun x109 =>
                        ixA a0 a0n v89 4 fun p110 =>
                        ldI .i64 (World.drew w26) (p110.add 0) fun x111 =>
                        ldI .i64 (World.drew w26) (p110.add 1) fun x112 =>
                        ldI .i64 (World.drew w26) (p110.add 2) fun x113 =>
                        ldI .i64 (World.drew w26) (p110.add 3) fun x114 =>
                        ixA a0 a0n v89 4 fun p115 =>
                        st (World.drew w26) (p115.add 0) (.int .i64 x106) fun w27 =>
                        st w27 (p115.add 1) (.int .i64 x107) fun w28 =>
                        st w28 (p115.add 2) (.int .i64 x108) fun w29 =>
                        st w29 (p115.add 3) (.int .i64 x109) fun w30 =>
                        ixA a0 a0n (IntKind.wrap .i64 (v89 - 1)) 4 fun p116 =>
                        st w30 (p116.add 0) (.int .i64 x111) fun w31 =>
                        st w31 (p116.add 1) (.int .i64 x112) fun w32 =>
                        st w32 (p116.add 2) (.int .i64 x113) fun w33 =>
                        st w33 (p116.add 3) (.int .i64 x114) fun w34 =>
                        k90 ((IntKind.wrap .i64 (v89 + 1)), ()) w34)) (
                      k10 (v12, ()) w25)) ((IntKind.wrap .i64 (v12 + 1)), ()) w14) (
                  k10 (v12, ()) w14))))) (v4, ()) w1) fun s11 w2 => match s11 with
      | (v9, _) =>
      k6 (v9, (IntKind.wrap .i64 (v5 + 1)), ()) w2) (
      R (.bool false) w1)) ((IntKind.wrap .i64 (a1 + 1)), 0, ()) w
def An24 : An := .seq (.leaf) (.seq (.leaf) (.seq (.seq (.leaf) (.blk (.loop [(9, .one (.int .i64)), (10, .one (.int .i64))] (.seq (.seq (.leaf) (.cond (.leaf) (.leaf))) (.seq (.join [(9, .one (.int .i64))] (.blk (.seq (.blk (.loop [(9, .one (.int .i64))] (.seq (.seq (.draw [0, 0, 3, 7, 15, 15, 15, 111, 239, 15, 15, 1039, 3599, 7695, 16383, 32767, 65535, 131071]) (.cond (.leaf) (.leaf))) (.blk (.leaf))))) (.seq (.seq (.leaf) (.cond (.seq (.leaf) (.leaf)) (.leaf))) (.seq (.seq (.leaf) (.cond (.seq (.leaf) (.leaf)) (.leaf))) (.seq (.draw [0, 0, 0, 0, 8, 0, 0, 64, 224, 480, 0, 0, 3072, 7168, 16355, 32739, 65535, 131071]) (.seq (.join [] (.seq (.leaf) (.cond (.seq (.leaf) (.blk (.loop [(11, .one (.int .i64))] (.seq (.seq (.leaf) (.cond (.leaf) (.leaf))) (.seq (.blk (.seq (.seq (.draw [0, 0, 0, 6, 14, 0, 0, 64, 224, 480, 1023, 2047, 4095]) (.cond (.leaf) (.leaf))) (.draw [0, 0, 0, 0, 8, 0, 0, 64, 224, 480, 0, 0, 3072, 7168, 16355, 32739, 65535, 131071]))) (.leaf)))))) (.leaf)))) (.seq (.leaf) (.cond (.seq (.leaf) (.blk (.loop [(12, .one (.int .i64))] (.seq (.seq (.leaf) (.cond (.leaf) (.leaf))) (.seq (.blk (.seq (.seq (.draw [0, 0, 0, 6, 14, 0, 0, 64, 224, 480, 1023, 2047, 4095]) (.cond (.leaf) (.leaf))) (.draw [0, 0, 0, 0, 8, 0, 0, 64, 224, 480, 0, 0, 3072, 7168, 16355, 32739, 65535, 131071]))) (.leaf)))))) (.leaf)))))))))) (.leaf)))))) (.seq (.leaf) (.leaf))))
theorem V24_eq (a0 : Option Addr) (a0n : Nat) (a0c : Nat) (a1 : Int) (a2 : Int) (a3 : Value) (w : World) (R : Value → World → Prop) : evF Try.prog Try.f24 An24 [.slice a0 a0n a0c, .int .i64 a1, .int .i64 a2, a3] w R = V24 a0 a0n a0c a1 a2 a3 w R := by kernel_rfl
theorem V24_calls (a0 : Option Addr) (a0n : Nat) (a0c : Nat) (a1 : Int) (a2 : Int) (a3 : Value) (w : World) (R : Value → World → Prop) (h : V24 a0 a0n a0c a1 a2 a3 w R) : Calls Try.prog 24 #[.slice a0 a0n a0c, .int .i64 a1, .int .i64 a2, a3] w fun e w' => ∃ v, e = .returned v ∧ R v w' :=
  calls_of_ev (args := [.slice a0 a0n a0c, .int .i64 a1, .int .i64 a2, a3]) Try.func24 (Nat.le_of_ble_eq_true (by kernel_rfl)) (by rw [V24_eq]; exact h)
theorem ok24 : fnOk Try.prog 24 = true := by kernel_rfl

/-! slices.partitionEqualCmpFunc[depot/api.Fault] -/
def V25 (a0 : Option Addr) (a0n : Nat) (a0c : Nat) (a1 : Int) (a2 : Int) (a3 : Int) (a4 : Value) (w : World) (R : Value → World → Prop) : Prop :=
  ixA a0 a0n a3 4 fun p2 =>
  ldI .i64 (World.drew w) (p2.add 0) fun x3 =>
  ldI .i64 (World.drew w) (p2.add 1) fun x4 =>
  ldI .i64 (World.drew w) (p2.add 2) fun x5 =>
  ldI .i64 (World.drew w) (p2.add 3) fun x6 =>
  ixA a0 a0n a1 4 fun p7 =>
  ldI .i64 (World.drew w) (p7.add 0) fun x8 =>
  ldI .i64 (World.drew w) (p7.add 1) fun x9 =>
  ldI .i64 (World.drew w) (p7.add 2) fun x10 =>
  ldI .i64 (World.drew w) (p7.add 3) fun x11 =>
  ixA a0 a0n a1 4 fun p12 =>
  st (World.drew w) (p12.add 0) (.int .i64 x3) fun w1 =>
  st w1 (p12.add 1) (.int .i64 x4) fun w2 =>
  st w2 (p12.add 2) (.int .i64 x5) fun w3 =>
  st w3 (p12.add 3) (.int .i64 x6) fun w4 =>
  ixA a0 a0n a3 4 fun p13 =>
  st w4 (p13.add 0) (.int .i64 x8) fun w5 =>
  st w5 (p13.add 1) (.int .i64 x9) fun w6 =>
  st w6 (p13.add 2) (.int .i64 x10) fun w7 =>
  st w7 (p13.add 3) (.int .i64 x11) fun w8 =>
  lp (σ := Int × Int × Unit) (fun s18 w9 k17 => match s18 with
    | (v15, v16, _) =>
    lp (σ := Int × Unit) (fun s21 w10 k20 => match s21 with
      | (v19, _) =>
      gd (α := Addr) (decide (v19 ≤ v16)) (fun k22 =>
        ixA a0 a0n a1 4 fun p23 =>
        k22 p23 (World.drew w10)) ⟨0, 0, none⟩ (World.drew w10) fun x24 _ =>
      gd (α := (Int × Int × Int × Int × Unit)) (decide (v19 ≤ v16)) (fun k25 =>
        ldI .i64 (World.drew w10) (x24.add 0) fun x26 =>
        ldI .i64 (World.drew w10) (x24.add 1) fun x27 =>
        ldI .i64 (World.drew w10) (x24.add 2) fun x28 =>
        ldI .i64 (World.drew w10) (x24.add 3) fun x29 =>
        k25 (x26, x27, x28, x29, ()) (World.drew w10)) (0, 0, 0, 0, ()) (World.drew w10) fun x30 _ =>
      gd (α := Addr) (decide (v19 ≤ v16)) (fun k31 =>
        ixA a0 a0n v19 4 fun p32 =>
        k31 p32 (World.drew w10)) ⟨0, 0, none⟩ (World.drew w10) fun x33 _ =>
      gd (α := (Int × Int × Int × Int × Unit)) (decide (v19 ≤ v16)) (fun k34 =>
        ldI .i64 (World.drew w10) (x33.add 0) fun x35 =>
        ldI .i64 (World.drew w10) (x33.add 1) fun x36 =>
        ldI .i64 (World.drew w10) (x33.add 2) fun x37 =>
        ldI .i64 (World.drew w10) (x33.add 3) fun x38 =>
        k34 (x35, x36, x37, x38, ()) (World.drew w10)) (0, 0, 0, 0, ()) (World.drew w10) fun x39 _ =>
      gd (α := Int) (decide (v19 ≤ v16)) (fun k40 =>
        clF Try.prog (a4) [.agg #[.int .i64 x30.1, .int .i64 x30.2.1, .int .i64 x30.2.2.1, .int .i64 x30.2.2.2.1], .agg #[.int .i64 x39.1, .int .i64 x39.2.1, .int .i64 x39.2.2.1, .int .i64 x39.2.2.2.1]] (World.drew w10) fun e42 w11 => ∃ x41 : Int, e42 = Ending.returned (.int .i64 x41) ∧
        k40 x41 w11) 0 (World.drew w10) fun x43 w12 =>
      pif (cond (decide (v19 ≤ v16)) (!(decide (x43 < 0))) false) (
        k20 ((IntKind.wrap .i64 (v19 + 1)), ()) w12) (
        lp (σ := Int × Unit) (fun s47 w13 k46 => match s47 with
          | (v45, _) =>
          gd (α := Addr) (decide (v19 ≤ v45)) (fun k48 =>
            ixA a0 a0n a1 4 fun p49 =>
            k48 p49 (World.drew w13)) ⟨0, 0, none⟩ (World.drew w13) fun x50 _ =>
          gd (α := (Int × Int × Int × Int × Unit)) (decide (v19 ≤ v45)) (fun k51 =>
            ldI .i64 (World.drew w13) (x50.add 0) fun x52 =>
            ldI .i64 (World.drew w13) (x50.add 1) fun x53 =>
            ldI .i64 (World.drew w13) (x50.add 2) fun x54 =>
            ldI .i64 (World.drew w13) (x50.add 3) fun x55 =>
            k51 (x52, x53, x54, x55, ()) (World.drew w13)) (0, 0, 0, 0, ()) (World.drew w13) fun x56 _ =>
          gd (α := Addr) (decide (v19 ≤ v45)) (fun k57 =>
            ixA a0 a0n v45 4 fun p58 =>
            k57 p58 (World.drew w13)) ⟨0, 0, none⟩ (World.drew w13) fun x59 _ =>
          gd (α := (Int × Int × Int × Int × Unit)) (decide (v19 ≤ v45)) (fun k60 =>
            ldI .i64 (World.drew w13) (x59.add 0) fun x61 =>
            ldI .i64 (World.drew w13) (x59.add 1) fun x62 =>
            ldI .i64 (World.drew w13) (x59.add 2) fun x63 =>
            ldI .i64 (World.drew w13) (x59.add 3) fun x64 =>
            k60 (x61, x62, x63, x64, ()) (World.drew w13)) (0, 0, 0, 0, ()) (World.drew w13) fun x65 _ =>
          gd (α := Int) (decide (v19 ≤ v45)) (fun k66 =>
            clF Try.prog (a4) [.agg #[.int .i64 x56.1, .int .i64 x56.2.1, .int .i64 x56.2.2.1, .int .i64 x56.2.2.2.1], .agg #[.int .i64 x65.1, .int .i64 x65.2.1, .int .i64 x65.2.2.1, .int .i64 x65.2.2.2.1]] (World.drew w13) fun e68 w14 => ∃ x67 : Int, e68 = Ending.returned (.int .i64 x67) ∧
            k66 x67 w14) 0 (World.drew w13) fun x69 w15 =>
          pif (cond (decide (v19 ≤ v45)) (decide (x69 < 0)) false) (
            k46 ((IntKind.wrap .i64 (v45 - 1)), ()) w15) (
            pif (decide (v19 > v45)) (
              R (.int .i64 v19) w15) (
              ixA a0 a0n v45 4 fun p73 =>
              ldI .i64 (World.drew w15) (p73.add 0) fun x74 =>
              ldI .i64 (World.drew w15) (p73.add 1) fun x75 =>
              ldI .i64 (World.drew w15) (p73.add 2) fun x76 =>
              ldI .i64 (World.drew w15) (p73.add 3) fun x77 =>
              ixA a0 a0n v19 4 fun p78 =>
              ldI .i64 (World.drew w15) (p78.add 0) fun x79 =>
              ldI .i64 (World.drew w15) (p78.add 1) fun x80 =>
              ldI .i64 (World.drew w15) (p78.add 2) fun x81 =>
              ldI .i64 (World.drew w15) (p78.add 3) fun x82 =>
              ixA a0 a0n v19 4 fun p83 =>
              st (World.drew w15) (p83.add 0) (.int .i64 x74) fun w16 =>
              st w16 (p83.add 1) (.int .i64 x75) fun w17 =>
              st w17 (p83.add 2) (.int .i64 x76) fun w18 =>
              st w18 (p83.add 3) (.int .i64 x77) fun w19 =>
              ixA a0 a0n v45 4 fun p84 =>
              st w19 (p84.add 0) (.int .i64 x79) fun w20 =>
              st w20 (p84.add 1) (.int .i64 x80) fun w21 =>
              st w21 (p84.add 2) (.int .i64 x81) fun w22 =>
              st w22 (p84.add 3) (.int .i64 x82) fun w23 =>
              k17 ((IntKind.wrap .i64 (v19 + 1)), (IntKind.wrap .i64 (v45 - 1)), ()) w23))) (v16, ()) w12)) (v15, ()) w9) ((IntKind.wrap .i64 (a1 + 1)), (IntKind.wrap .i64 (a2 - 1)), ()) w8
def An25 : An := .seq (.leaf) (.seq (.draw [0, 0, 0, 0, 0, 0, 48, 112, 0, 0, 768, 1792, 4083, 8179, 16383, 32767]) (.seq (.leaf) (.seq (.blk (.loop [(11, .one (.int .i64)), (12, .one (.int .i64))] (.blk (.seq (.blk (.loop [(11, .one (.int .i64))] (.seq (.seq (.draw [0, 0, 3, 7, 15, 15, 15, 111, 239, 15, 15, 1551, 3599, 8191, 16383, 32767, 65535]) (.cond (.leaf) (.leaf))) (.blk (.leaf))))) (.seq (.blk (.loop [(12, .one (.int .i64))] (.seq (.seq (.draw [0, 0, 3, 7, 15, 15, 15, 111, 239, 15, 15, 1551, 3599, 8191, 16383, 32767]) (.cond (.leaf) (.leaf))) (.blk (.leaf))))) (.seq (.seq (.leaf) (.cond (.leaf) (.leaf))) (.seq (.draw [0, 0, 0, 0, 0, 0, 48, 112, 0, 0, 768, 1792, 4083, 8179, 16383, 32767]) (.seq (.leaf) (.leaf))))))))) (.seq (.leaf) (.leaf)))))
theorem V25_eq (a0 : Option Addr) (a0n : Nat) (a0c : Nat) (a1 : Int) (a2 : Int) (a3 : Int) (a4 : Value) (w : World) (R : Value → World → Prop) : evF Try.prog Try.f25 An25 [.slice a0 a0n a0c, .int .i64 a1, .int .i64 a2, .int .i64 a3, a4] w R = V25 a0 a0n a0c a1 a2 a3 a4 w R := by kernel_rfl
theorem V25_calls (a0 : Option Addr) (a0n : Nat) (a0c : Nat) (a1 : Int) (a2 : Int) (a3 : Int) (a4 : Value) (w : World) (R : Value → World → Prop) (h : V25 a0 a0n a0c a1 a2 a3 a4 w R) : Calls Try.prog 25 #[.slice a0 a0n a0c, .int .i64 a1, .int .i64 a2, .int .i64 a3, a4] w fun e w' => ∃ v, e = .returned v ∧ R v w' :=
  calls_of_ev (args := [.slice a0 a0n a0c, .int .i64 a1, .int .i64 a2, .int .i64 a3, a4]) Try.func25 (Nat.le_of_ble_eq_true (by kernel_rfl)) (by rw [V25_eq]; exact h)
theorem ok25 : fnOk Try.prog 25 = true := by kernel_rfl

/-! slices.partitionCmpFunc[depot/api.Fault] -/
def V26 (a0 : Option Addr) (a0n : Nat) (a0c : Nat) (a1 : Int) (a2 : Int) (a3 : Int) (a4 : Value) (w : World) (R : Value → World → Prop) : Prop :=
  ixA a0 a0n a3 4 fun p2 =>
  ldI .i64 (World.drew w) (p2.add 0) fun x3 =>
  ldI .i64 (World.drew w) (p2.add 1) fun x4 =>
  ldI .i64 (World.drew w) (p2.add 2) fun x5 =>
  ldI .i64 (World.drew w) (p2.add 3) fun x6 =>
  ixA a0 a0n a1 4 fun p7 =>
  ldI .i64 (World.drew w) (p7.add 0) fun x8 =>
  ldI .i64 (World.drew w) (p7.add 1) fun x9 =>
  ldI .i64 (World.drew w) (p7.add 2) fun x10 =>
  ldI .i64 (World.drew w) (p7.add 3) fun x11 =>
  ixA a0 a0n a1 4 fun p12 =>
  st (World.drew w) (p12.add 0) (.int .i64 x3) fun w1 =>
  st w1 (p12.add 1) (.int .i64 x4) fun w2 =>
  st w2 (p12.add 2) (.int .i64 x5) fun w3 =>
  st w3 (p12.add 3) (.int .i64 x6) fun w4 =>
  ixA a0 a0n a3 4 fun p13 =>
  st w4 (p13.add 0) (.int .i64 x8) fun w5 =>
  st w5 (p13.add 1) (.int .i64 x9) fun w6 =>
  st w6 (p13.add 2) (.int .i64 x10) fun w7 =>
  st w7 (p13.add 3) (.int .i64 x11) fun w8 =>
  lp (σ := Int × Unit) (fun s17 w9 k16 => match s17 with
    | (v15, _) =>
    gd (α := Addr) (decide (v15 ≤ (IntKind.wrap .i64 (a2 - 1)))) (fun k18 =>
      ixA a0 a0n v15 4 fun p19 =>
      k18 p19 (World.drew w9)) ⟨0, 0, none⟩ (World.drew w9) fun x20 _ =>
    gd (α := (Int × Int × Int × Int × Unit)) (decide (v15 ≤ (IntKind.wrap .i64 (a2 - 1)))) (fun k21 =>
      ldI .i64 (World.drew w9) (x20.add 0) fun x22 =>
      ldI .i64 (World.drew w9) (x20.add 1) fun x23 =>
      ldI .i64 (World.drew w9) (x20.add 2) fun x24 =>
      ldI .i64 (World.drew w9) (x20.add 3) fun x25 =>
      k21 (x22, x23, x24, x25, ()) (World.drew w9)) (0, 0, 0, 0, ()) (World.drew w9) fun x26 _ =>
    gd (α := Addr) (decide (v15 ≤ (IntKind.wrap .i64 (a2 - 1)))) (fun k27 =>
      ixA a0 a0n a1 4 fun p28 =>
      k27 p28 (World.drew w9)) ⟨0, 0, none⟩ (World.drew w9) fun x29 _ =>
    gd (α := (Int × Int × Int × Int × Unit)) (decide (v15 ≤ (IntKind.wrap .i64 (a2 - 1)))) (fun k30 =>
      ldI .i64 (World.drew w9) (x29.add 0) fun x31 =>
      ldI .i64 (World.drew w9) (x29.add 1) fun x32 =>
      ldI .i64 (World.drew w9) (x29.add 2) fun x33 =>
      ldI .i64 (World.drew w9) (x29.add 3) fun x34 =>
      k30 (x31, x32, x33, x34, ()) (World.drew w9)) (0, 0, 0, 0, ()) (World.drew w9) fun x35 _ =>
    gd (α := Int) (decide (v15 ≤ (IntKind.wrap .i64 (a2 - 1)))) (fun k36 =>
      clF Try.prog (a4) [.agg #[.int .i64 x26.1, .int .i64 x26.2.1, .int .i64 x26.2.2.1, .int .i64 x26.2.2.2.1], .agg #[.int .i64 x35.1, .int .i64 x35.2.1, .int .i64 x35.2.2.1, .int .i64 x35.2.2.2.1]] (World.drew w9) fun e38 w10 => ∃ x37 : Int, e38 = Ending.returned (.int .i64 x37) ∧
      k36 x37 w10) 0 (World.drew w9) fun x39 w11 =>
    pif (cond (decide (v15 ≤ (IntKind.wrap .i64 (a2 - 1)))) (decide (x39 < 0)) false) (
      k16 ((IntKind.wrap .i64 (v15 + 1)), ()) w11) (
      lp (σ := Int × Unit) (fun s43 w12 k42 => match s43 with
        | (v41, _) =>
        gd (α := Addr) (decide (v15 ≤ v41)) (fun k44 =>
          ixA a0 a0n v41 4 fun p45 =>
          k44 p45 (World.drew w12)) ⟨0, 0, none⟩ (World.drew w12) fun x46 _ =>
        gd (α := (Int × Int × Int × Int × Unit)) (decide (v15 ≤ v41)) (fun k47 =>
          ldI .i64 (World.drew w12) (x46.add 0) fun x48 =>
          ldI .i64 (World.drew w12) (x46.add 1) fun x49 =>
          ldI .i64 (World.drew w12) (x46.add 2) fun x50 =>
          ldI .i64 (World.drew w12) (x46.add 3) fun x51 =>
          k47 (x48, x49, x50, x51, ()) (World.drew w12)) (0, 0, 0, 0, ()) (World.drew w12) fun x52 _ =>
        gd (α := Addr) (decide (v15 ≤ v41)) (fun k53 =>
          ixA a0 a0n a1 4 fun p54 =>
          k53 p54 (World.drew w12)) ⟨0, 0, none⟩ (World.drew w12) fun x55 _ =>
        gd (α := (Int × Int × Int × Int × Unit)) (decide (v15 ≤ v41)) (fun k56 =>
          ldI .i64 (World.drew w12) (x55.add 0) fun x57 =>
          ldI .i64 (World.drew w12) (x55.add 1) fun x58 =>
          ldI .i64 (World.drew w12) (x55.add 2) fun x59 =>
          ldI .i64 (World.drew w12) (x55.add 3) fun x60 =>
          k56 (x57, x58, x59, x60, ()) (World.drew w12)) (0, 0, 0, 0, ()) (World.drew w12) fun x61 _ =>
        gd (α := Int) (decide (v15 ≤ v41)) (fun k62 =>
          clF Try.prog (a4) [.agg #[.int .i64 x52.1, .int .i64 x52.2.1, .int .i64 x52.2.2.1, .int .i64 x52.2.2.2.1], .agg #[.int .i64 x61.1, .int .i64 x61.2.1, .int .i64 x61.2.2.1, .int .i64 x61.2.2.2.1]] (World.drew w12) fun e64 w13 => ∃ x63 : Int, e64 = Ending.returned (.int .i64 x63) ∧
          k62 x63 w13) 0 (World.drew w12) fun x65 w14 =>
        pif (cond (decide (v15 ≤ v41)) (!(decide (x65 < 0))) false) (
          k42 ((IntKind.wrap .i64 (v41 - 1)), ()) w14) (
          pif (decide (v15 > v41)) (
            ixA a0 a0n a1 4 fun p68 =>
            ldI .i64 (World.drew w14) (p68.add 0) fun x69 =>
            ldI .i64 (World.drew w14) (p68.add 1) fun x70 =>
            ldI .i64 (World.drew w14) (p68.add 2) fun x71 =>
            ldI .i64 (World.drew w14) (p68.add 3) fun x72 =>
            ixA a0 a0n v41 4 fun p73 =>
            ldI .i64 (World.drew w14) (p73.add 0) fun x74 =>
            ldI .i64 (World.drew w14) (p73.add 1) fun x75 =>
            ldI .i64 (World.drew w14) (p73.add 2) fun x76 =>
            ldI .i64 (World.drew w14) (p73.add 3) fun x77 =>
            ixA a0 a0n v41 4 fun p78 =>
            st (World.drew w14) (p78.add 0) (.int .i64 x69) fun w15 =>
            st w15 (p78.add 1) (.int .i64 x70) fun w16 =>
            st w16 (p78.add 2) (.int .i64 x71) fun w17 =>
            st w17 (p78.add 3) (.int .i64 x72) fun w18 =>
            ixA a0 a0n a1 4 fun p79 =>
            st w18 (p79.add 0) (.int .i64 x74) fun w19 =>
            st w19 (p79.add 1) (.int .i64 x75) fun w20 =>
            st w20 (p79.add 2) (.int .i64 x76) fun w21 =>
            st w21 (p79.add 3) (.int .i64 x77) fun w22 =>
            R (.tuple #[.int .i64 v41, .bool true]) w22) (
            ixA a0 a0n v41 4 fun p81 =>
            ldI .i64 (World.drew w14) (p81.add 0) fun x82 =>
            ldI .i64 (World.drew w14) (p81.add 1) fun x83 =>
            ldI .i64 (World.drew w14) (p81.add 2) fun x84 =>
            ldI .i64 (World.drew w14) (p81.add 3) fun x85 =>
            ixA a0 a0n v15 4 fun p86 =>
            ldI .i64 (World.drew w14) (p86.add 0) fun x87 =>
            ldI .i64 (World.drew w14) (p86.add 1) fun x88 =>
            ldI .i64 (World.drew w14) (p86.add 2) fun x89 =>
            ldI .i64 (World.drew w14) (p86.add 3) fun x90 =>
            ixA a0 a0n v15 4 fun p91 =>
            st (World.drew w14) (p91.add 0) (.int .i64 x82) fun w23 =>
            st w23 (p91.add 1) (.int .i64 x83) fun w24 =>
            st w24 (p91.add 2) (.int .i64 x84) fun w25 =>
            st w25 (p91.add 3) (.int .i64 x85) fun w26 =>
            ixA a0 a0n v41 4 fun p92 =>
            st w26 (p92.add 0) (.int .i64 x87) fun w27 =>
            st w27 (p92.add 1) (.int .i64 x88) fun w28 =>
            st w28 (p92.add 2) (.int .i64 x89) fun w29 =>
            st w29 (p92.add 3) (.int .i64 x90) fun w30 =>
            lp (σ := Int × Int × Unit) (fun s98 w31 k97 => match s98 with
              | (v95, v96, _) =>
              lp (σ := Int × Unit) (fun s101 w32 k100 => match s101 with
                | (v99, _) =>
                gd (α := Addr) (decide (v99 ≤ v96)) (fun k102 =>
                  ixA a0 a0n v99 4 fun p103 =>
                  k102 p103 (World.drew w32)) ⟨0, 0, none⟩ (World.drew w32) fun x104 _ =>
                gd (α := (Int × Int × Int × Int × Unit)) (decide (v99 ≤ v96)) (fun k105 =>
                  ldI .i64 (World.drew w32) (x104.add 0) fun x106 =>
                  ldI .i64 (World.drew w32) (x104.add 1) fun x107 =>
                  ldI .i64 (World.drew w32) (x104.add 2) fun x108 =>
                  ldI .i64 (World.drew w32) (x104.add 3) fun x109 =>
                  k105 (x106, x107, x108, x109, ()) (World.drew w32)) (0, 0, 0, 0, ()) (World.drew w32) fun x110 _ =>
                gd (α := Addr) (decide (v99 ≤ v96)) (fun k111 =>
                  ixA a0 a0n a1 4 fun p112 =>
                  k111 p112 (World.drew w32)) ⟨0, 0, none⟩ (World.drew w32) fun x113 _ =>
                gd (α := (Int × Int × Int × Int × Unit)) (decide (v99 ≤ v96)) (fun k114 =>
                  ldI .i64 (World.drew w32) (x113.add 0) fun x115 =>
                  ldI .i64 (World.drew w32) (x113.add 1) fun x116 =>
                  ldI .i64 (World.drew w32) (x113.add 2) fun x117 =>
                  ldI .i64 (World.drew w32) (x113.add 3) fun x118 =>
                  k114 (x115, x116, x117, x118, ()) (World.drew w32)) (0, 0, 0, 0, ()) (World.drew w32) fun x119 _ =>
                gd (α := Int) (decide (v99 ≤ v96)) (fun k120 =>
                  clF Try.prog (a4) [.agg #[.int .i64 x110.1, .int .i64 x110.2.1, .int .i64 x110.2.2.1, .int .i64 x110.2.2.2.1], .agg #[.int .i64 x119.1, .int .i64 x119.2.1, .int .i64 x119.2.2.1, .int .i64 x119.2.2.2.1]] (World.drew w32) fun e122 w33 => ∃ x121 : Int, e122 = Ending.returned (.int .i64 x121) ∧
                  k120 x121 w33) 0 (World.drew w32) fun x123 w34 =>
                pif (cond (decide (v99 ≤ v96)) (decide (x123 < 0)) false) (
                  k100 ((IntKind.wrap .i64 (v99 + 1)), ()) w34) (
                  lp (σ := Int × Unit) (fun s127 w35 k126 => match s127 with
                    | (v125, _) =>
                    gd (α := Addr) (decide (v99 ≤ v125)) (fun k128 =>
                      ixA a0 a0n v125 4 fun p129 =>
                      k128 p129 (World.drew w35)) ⟨0, 0, none⟩ (World.drew w35) fun x130 _ =>
                    gd (α := (Int × Int × Int × Int × Unit)) (decide (v99 ≤ v125)) (fun k131 =>
                      ldI .i64 (World.drew w35) (x130.add 0) fun x132 =>
                      ldI .i64 (World.drew w35) (x130.add 1) fun x133 =>
                      ldI .i64 (World.drew w35) (x130.add 2) fun x134 =>
                      ldI .i64 (World.drew w35) (x130.add 3) fun x135 =>
                      k131 (x132, x133, x134, x135, ()) (World.drew w35)) (0, 0, 0, 0, ()) (World.drew w35) fun x136 _ =>
                    gd (α := Addr) (decide (v99 ≤ v125)) (fun k137 =>
                      ixA a0 a0n a1 4 fun p138 =>
                      k137 p138 (World.drew w35)) ⟨0, 0, none⟩ (World.drew w35) fun x139 _ =>
                    gd (α := (Int × Int × Int × Int × Unit)) (decide (v99 ≤ v125)) (fun k140 =>
                      ldI .i64 (World.drew w35) (x139.add 0) fun x141 =>
                      ldI .i64 (World.drew w35) (x139.add 1) fun x142 =>
                      ldI .i64 (World.drew w35) (x139.add 2) fun x143 =>
                      ldI .i64 (World.drew w35) (x139.add 3) fun x144 =>
                      k140 (x141, x142, x143, x144, ()) (World.drew w35)) (0, 0, 0, 0, ()) (World.drew w35) fun x145 _ =>
                    gd (α := Int) (decide (v99 ≤ v125)) (fun k146 =>
                      clF Try.prog (a4) [.agg #[.int .i64 x136.1, .int .i64 x136.2.1, .int .i64 x136.2.2.1, .int .i64 x136.2.2.2.1], .agg #[.int .i64 x145.1, .int .i64 x145.2.1, .int .i64 x145.2.2.1, .int .i64 x145.2.2.2.1]] (World.drew w35) fun e148 w36 => ∃ x147 : Int, e148 = Ending.returned (.int .i64 x147) ∧
                      k146 x147 w36) 0 (World.drew w35) fun x149 w37 =>
                    pif (cond (decide (v99 ≤ v125)) (!(decide (x149 < 0))) false) (
                      k126 ((IntKind.wrap .i64 (v125 - 1)), ()) w37) (
                      pif (decide (v99 > v125)) (
                        ixA a0 a0n a1 4 fun p152 =>
                        ldI .i64 (World.drew w37) (p152.add 0) fun x153 =>
                        ldI .i64 (World.drew w37) (p152.add 1) fun x154 =>
                        ldI .i64 (World.drew w37) (p152.add 2) fun x155 =>
                        ldI .i64 (World.drew w37) (p152.add 3) fun x156 =>
                        ixA a0 a0n v125 4 fun p157 =>
                        ldI .i64 (World.drew w37) (p157.add 0) fun x158 =>
                        ldI .i64 (World.drew w37) (p157.add 1) fun x159 =>
                        ldI .i64 (World.drew w37) (p157.add 2) fun x160 =>
                        ldI .i64 (World.drew w37) (p157.add 3) fun x161 =>
                        ixA a0 a0n v125 4 fun p162 =>
                        st (World.drew w37) (p162.add 0) (.int .i64 x153) fun w38 =>
                        st w38 (p162.add 1) (.int .i64 x154) fun w39 =>
                        st w39 (p162.add 2) (.int .i64 x155) fun w40 =>
                        st w40 (p162.add 3) (.int .i64 x156) fun w41 =>
                        ixA a0 a0n a1 4 fun p163 =>
                        st w41 (p163.add 0) (.int .i64 x158) fun w42 =>
                        st w42 (p163.add 1) (.int .i64 x159) fun w43 =>
                        st w43 (p163.add 2) (.int .i64 x160) fun w44 =>
                        st w44 (p163.add 3) (.int .i64 x161) fun w45 =>
                        R (.tuple #[.int .i64 v125, .bool false]) w45) (
                        ixA a0 a0n v125 4 fun p165 =>
                        ldI .i64 (World.drew w37) (p165.add 0) fun x166 =>
                        ldI .i64 (World.drew w37) (p165.add 1) fun x167 =>
                        ldI .i64 (World.drew w37) (p165.add 2) fun x168 =>
                        ldI .i64 (World.drew w37) (p165.add 3) fun x169 =>
                        ixA a0 a0n v99 4 fun p170 =>
                        ldI .i64 (World.drew w37) (p170.add 0) fun x171 =>
                        ldI .i64 (World.drew w37) (p170.add 1) fun x172 =>
                        ldI .i64 (World.drew w37) (p170.add 2) fun x173 =>
                        ldI .i64 (World.drew w37) (p170.add 3) fun x174 =>
                        ixA a0 a0n v99 4 fun p175 =>
                        st (World.drew w37) (p175.add 0) (.int .i64 x166) fun w46 =>
                        st w46 (p175.add 1) (.int .i64 x167) fun w47 =>
                        st w47 (p175.add 2) (.int .i64 x168) fun w48 =>
                        st w48 (p175.add 3) (.int .i64 x169) fun w49 =>
                        ixA a0 a0n v125 4 fun p176 =>
                        st w49 (p176.add 0) (.int .i64 x171) fun w50 =>
                        st w50 (p176.add 1) (.int .i64 x172) fun w51 =>
                        st w51 (p176.add 2) (.int .i64 x173) fun w52 =>
                        st w52 (p176.add 3) (.int .i64 x174) fun w53 =>
                        k97 ((IntKind.wrap .i64 (v99 + 1)), (IntKind.wrap .i64 (v125 - 1)), ()) w53))) (v96, ()) w34)) (v95, ()) w31) ((IntKind.wrap .i64 (v15 + 1)), (IntKind.wrap .i64 (v41 - 1)), ()) w30))) ((IntKind.wrap .i64 (a2 - 1)), ()) w11)) ((IntKind.wrap .i64 (a1 + 1)), ()) w8
def An26 : An := .seq (.leaf) (.seq (.draw [0, 0, 0, 0, 0, 0, 48, 112, 0, 0, 768, 1792, 4083, 8179, 16383, 32767]) (.seq (.leaf) (.seq (.blk (.loop [(12, .one (.int .i64))] (.seq (.seq (.draw [0, 0, 3, 7, 15, 15, 15, 111, 239, 15, 15, 1551, 3599, 8191, 16383, 32767]) (.cond (.leaf) (.leaf))) (.blk (.leaf))))) (.seq (.blk (.loop [(13, .one (.int .i64))] (.seq (.seq (.draw [0, 0, 3, 7, 15, 15, 15, 111, 239, 15, 15, 1551, 3599, 8191, 16383, 32767, 65535]) (.cond (.leaf) (.leaf))) (.blk (.leaf))))) (.seq (.seq (.leaf) (.cond (.seq (.draw [0, 0, 0, 0, 0, 0, 48, 112, 0, 0, 768, 1792, 4083, 8179, 16383, 32767]) (.seq (.leaf) (.leaf))) (.leaf))) (.seq (.draw [0, 0, 0, 0, 0, 0, 48, 112, 0, 0, 768, 1792, 4083, 8179, 16383, 32767]) (.seq (.leaf) (.seq (.leaf) (.seq (.blk (.loop [(12, .one (.int .i64)), (13, .one (.int .i64))] (.blk (.seq (.blk (.loop [(12, .one (.int .i64))] (.seq (.seq (.draw [0, 0, 3, 7, 15, 15, 15, 111, 239, 15, 15, 1551, 3599, 8191, 16383, 32767]) (.cond (.leaf) (.leaf))) (.blk (.leaf))))) (.seq (.blk (.loop [(13, .one (.int .i64))] (.seq (.seq (.draw [0, 0, 3, 7, 15, 15, 15, 111, 239, 15, 15, 1551, 3599, 8191, 16383, 32767, 65535]) (.cond (.leaf) (.leaf))) (.blk (.leaf))))) (.seq (.seq (.leaf) (.cond (.leaf) (.leaf))) (.seq (.draw [0, 0, 0, 0, 0, 0, 48, 112, 0, 0, 768, 1792, 4083, 8179, 16383, 32767]) (.seq (.leaf) (.leaf))))))))) (.seq (.draw [0, 0, 0, 0, 0, 0, 48, 112, 0, 0, 768, 1792, 4083, 8179, 16383, 32767]) (.seq (.leaf) (.leaf))))))))))))
theorem V26_eq (a0 : Option Addr) (a0n : Nat) (a0c : Nat) (a1 : Int) (a2 : Int) (a3 : Int) (a4 : Value) (w : World) (R : Value → World → Prop) : evF Try.prog Try.f26 An26 [.slice a0 a0n a0c, .int .i64 a1, .int .i64 a2, .int .i64 a3, a4] w R = V26 a0 a0n a0c a1 a2 a3 a4 w R := by kernel_rfl
theorem V26_calls (a0 : Option Addr) (a0n : Nat) (a0c : Nat) (a1 : Int) (a2 : Int) (a3 : Int) (a4 : Value) (w : World) (R : Value → World → Prop) (h : V26 a0 a0n a0c a1 a2 a3 a4 w R) : Calls Try.prog 26 #[.slice a0 a0n a0c, .int .i64 a1, .int .i64 a2, .int .i64 a3, a4] w fun e w' => ∃ v, e = .returned v ∧ R v w' :=
  calls_of_ev (args := [.slice a0 a0n a0c, .int .i64 a1, .int .i64 a2, .int .i64 a3, a4]) Try.func26 (Nat.le_of_ble_eq_true (by kernel_rfl)) (by rw [V26_eq]; exact h)
theorem ok26 : fnOk Try.prog 26 = true := by kernel_rfl

/-! math/bits.Len64 -/
def V28 (a0 : Int) (w : World) (R : Value → World → Prop) : Prop :=
  jn (σ := Int × Int × Unit) (fun k4 =>
    pif (decide (a0 ≥ 4294967296)) (
      k4 ((Int.fdiv a0 (2 ^ (min (Int.toNat 32) (IntKind.bits .u64)))), 32, ()) w) (
      k4 (a0, 0, ()) w)) fun s5 w1 => match s5 with
  | (v2, v3, _) =>
  jn (σ := Int × Int × Unit) (fun k11 =>
    pif (decide (v2 ≥ 65536)) (
      k11 ((Int.fdiv v2 (2 ^ (min (Int.toNat 16) (IntKind.bits .u64)))), (IntKind.wrap .i64 (v3 + 16)), ()) w1) (
      k11 (v2, v3, ()) w1)) fun s12 w2 => match s12 with
  | (v9, v10, _) =>
  jn (σ := Int × Int × Unit) (fun k18 =>
    pif (decide (v9 ≥ 256)) (
      k18 ((Int.fdiv v9 (2 ^ (min (Int.toNat 8) (IntKind.bits .u64)))), (IntKind.wrap .i64 (v10 + 8)), ()) w2) (
      k18 (v9, v10, ()) w2)) fun s19 w3 => match s19 with
  | (v16, v17, _) =>
  0 ≤ (IntKind.wrap .u8 v16) ∧ (IntKind.wrap .u8 v16) < ((⟨#[0, 1, 2, 2, 3, 3, 3, 3, 4, 4, 4, 4, 4, 4, 4, 4, 5, 5, 5, 5, 5, 5, 5, 5, 5, 5, 5, 5, 5, 5, 5, 5, 6, 6, 6, 6, 6, 6, 6, 6, 6, 6, 6, 6, 6, 6, 6, 6, 6, 6, 6, 6, 6, 6, 6, 6, 6, 6, 6, 6, 6, 6, 6, 6, 7, 7, 7, 7, 7, 7, 7, 7, 7, 7, 7, 7, 7, 7, 7, 7, 7, 7, 7, 7, 7, 7, 7, 7, 7, 7, 7, 7, 7, 7, 7, 7, 7, 7, 7, 7, 7, 7, 7, 7, 7, 7, 7, 7, 7, 7, 7, 7, 7, 7, 7, 7, 7, 7, 7, 7, 7, 7, 7, 7, 7, 7, 7, 7, 8, 8, 8, 8, 8, 8, 8, 8, 8, 8, 8, 8, 8, 8, 8, 8, 8, 8, 8, 8, 8, 8, 8, 8, 8, 8, 8, 8, 8, 8, 8, 8, 8, 8, 8, 8, 8, 8, 8, 8, 8, 8, 8, 8, 8, 8, 8, 8, 8, 8, 8, 8, 8, 8, 8, 8, 8, 8, 8, 8, 8, 8, 8, 8, 8, 8, 8, 8, 8, 8, 8, 8, 8, 8, 8, 8, 8, 8, 8, 8, 8, 8, 8, 8, 8, 8, 8, 8, 8, 8, 8, 8, 8, 8, 8, 8, 8, 8, 8, 8, 8, 8, 8, 8, 8, 8, 8, 8, 8, 8, 8, 8, 8, 8, 8, 8, 8, 8, 8, 8, 8, 8, 8, 8, 8, 8, 8, 8]⟩ : ByteArray).size : Int) ∧
  R (.int .i64 (IntKind.wrap .i64 (v17 + (IntKind.wrap .i64 (byteAt (⟨#[0, 1, 2, 2, 3, 3, 3, 3, 4, 4, 4, 4, 4, 4, 4, 4, 5, 5, 5, 5, 5, 5, 5, 5, 5, 5, 5, 5, 5, 5, 5, 5, 6, 6, 6, 6, 6, 6, 6, 6, 6, 6, 6, 6, 6, 6, 6, 6, 6, 6, 6, 6, 6, 6, 6, 6, 6, 6, 6, 6, 6, 6, 6, 6, 7, 7, 7, 7, 7, 7, 7, 7, 7, 7, 7, 7, 7, 7, 7, 7, 7, 7, 7, 7, 7, 7, 7, 7, 7, 7, 7, 7, 7, 7, 7, 7, 7, 7, 7, 7, 7, 7, 7, 7, 7, 7, 7, 7, 7, 7, 7, 7, 7, 7, 7, 7, 7, 7, 7, 7, 7, 7, 7, 7, 7, 7, 7, 7, 8, 8, 8, 8, 8, 8, 8, 8, 8, 8, 8, 8, 8, 8, 8, 8, 8, 8, 8, 8, 8, 8, 8, 8, 8, 8, 8, 8, 8, 8, 8, 8, 8, 8, 8, 8, 8, 8, 8, 8, 8, 8, 8, 8, 8, 8, 8, 8, 8, 8, 8, 8, 8, 8, 8, 8, 8, 8, 8, 8, 8, 8, 8, 8, 8, 8, 8, 8, 8, 8, 8, 8, 8, 8, 8, 8, 8, 8, 8, 8, 8, 8, 8, 8, 8, 8, 8, 8, 8, 8, 8, 8, 8, 8, 8, 8, 8, 8, 8, 8, 8, 8, 8, 8, 8, 8, 8, 8, 8, 8, 8, 8, 8, 8, 8, 8, 8, 8, 8, 8, 8, 8, 8, 8, 8, 8, 8, 8]⟩ : ByteArray) (IntKind.wrap .u8 v16)))))) w3
def An28 : An := .seq (.leaf) (.seq (.join [(0, .one (.int .u64)), (2, .one (.int .i64))] (.seq (.leaf) (.cond (.seq (.leaf) (.leaf)) (.leaf)))) (.seq (.join [(0, .one (.int .u64)), (2, .one (.int .i64))] (.seq (.leaf) (.cond (.seq (.leaf) (.leaf)) (.leaf)))) (.seq (.join [(0, .one (.int .u64)), (2, .one (.int .i64))] (.seq (.leaf) (.cond (.seq (.leaf) (.leaf)) (.leaf)))) (.seq (.leaf) (.leaf)))))
theorem V28_eq (a0 : Int) (w : World) (R : Value → World → Prop) : evF Try.prog Try.f28 An28 [.int .u64 a0] w R = V28 a0 w R := by kernel_rfl
theorem V28_calls (a0 : Int) (w : World) (R : Value → World → Prop) (h : V28 a0 w R) : Calls Try.prog 28 #[.int .u64 a0] w fun e w' => ∃ v, e = .returned v ∧ R v w' :=
  calls_of_ev (args := [.int .u64 a0]) Try.func28 (Nat.le_of_ble_eq_true (by kernel_rfl)) (by rw [V28_eq]; exact h)
theorem ok28 : fnOk Try.prog 28 = true := by kernel_rfl

/-! slices.siftDownCmpFunc[depot/api.Fault] -/
def V30 (a0 : Option Addr) (a0n : Nat) (a0c : Nat) (a1 : Int) (a2 : Int) (a3 : Int) (a4 : Value) (w : World) (R : Value → World → Prop) : Prop :=
  lp (σ := Int × Unit) (fun s4 w1 k3 => match s4 with
    | (v2, _) =>
    pif (decide ((IntKind.wrap .i64 ((IntKind.wrap .i64 (2 * v2)) + 1)) ≥ a2)) (
      R (.tuple #[]) w1) (
      jn (σ := Int × Unit) (fun k8 =>
        gd (α := Addr) (decide ((IntKind.wrap .i64 ((IntKind.wrap .i64 ((IntKind.wrap .i64 (2 * v2)) + 1)) + 1)) < a2)) (fun k10 =>
          ixA a0 a0n (IntKind.wrap .i64 (a3 + (IntKind.wrap .i64 ((IntKind.wrap .i64 (2 * v2)) + 1)))) 4 fun p11 =>
          k10 p11 (World.drew w1)) ⟨0, 0, none⟩ (World.drew w1) fun x12 _ =>
        gd (α := (Int × Int × Int × Int × Unit)) (decide ((IntKind.wrap .i64 ((IntKind.wrap .i64 ((IntKind.wrap .i64 (2 * v2)) + 1)) + 1)) < a2)) (fun k13 =>
          ldI .i64 (World.drew w1) (x12.add 0) fun x14 =>
          ldI .i64 (World.drew w1) (x12.add 1) fun x15 =>
          ldI .i64 (World.drew w1) (x12.add 2) fun x16 =>
          ldI .i64 (World.drew w1) (x12.add 3) fun x17 =>
          k13 (x14, x15, x16, x17, ()) (World.drew w1)) (0, 0, 0, 0, ()) (World.drew w1) fun x18 _ =>
        gd (α := Addr) (decide ((IntKind.wrap .i64 ((IntKind.wrap .i64 ((IntKind.wrap .i64 (2 * v2)) + 1)) + 1)) < a2)) (fun k19 =>
          ixA a0 a0n (IntKind.wrap .i64 ((IntKind.wrap .i64 (a3 + (IntKind.wrap .i64 ((IntKind.wrap .i64 (2 * v2)) + 1)))) + 1)) 4 fun p20 =>
          k19 p20 (World.drew w1)) ⟨0, 0, none⟩ (World.drew w1) fun x21 _ =>
        gd (α := (Int × Int × Int × Int × Unit)) (decide ((IntKind.wrap .i64 ((IntKind.wrap .i64 ((IntKind.wrap .i64 (2 * v2)) + 1)) + 1)) < a2)) (fun k22 =>
          ldI .i64 (World.drew w1) (x21.add 0) fun x23 =>
          ldI .i64 (World.drew w1) (x21.add 1) fun x24 =>
          ldI .i64 (World.drew w1) (x21.add 2) fun x25 =>
          ldI .i64 (World.drew w1) (x21.add 3) fun x26 =>
          k22 (x23, x24, x25, x26, ()) (World.drew w1)) (0, 0, 0, 0, ()) (World.drew w1) fun x27 _ =>
        gd (α := Int) (decide ((IntKind.wrap .i64 ((IntKind.wrap .i64 ((IntKind.wrap .i64 (2 * v2)) + 1)) + 1)) < a2)) (fun k28 =>
          clF Try.prog (a4) [.agg #[.int .i64 x18.1, .int .i64 x18.2.1, .int .i64 x18.2.2.1, .int .i64 x18.2.2.2.1], .agg #[.int .i64 x27.1, .int .i64 x27.2.1, .int .i64 x27.2.2.1, .int .i64 x27.2.2.2.1]] (World.drew w1) fun e30 w3 => ∃ x29 : Int, e30 = Ending.returned (.int .i64 x29) ∧
          k28 x29 w3) 0 (World.drew w1) fun x31 w4 =>
        pif (cond (decide ((IntKind.wrap .i64 ((IntKind.wrap .i64 ((IntKind.wrap .i64 (2 * v2)) + 1)) + 1)) < a2)) (decide (x31 < 0)) false) (
          k8 ((IntKind.wrap .i64 ((IntKind.wrap .i64 ((IntKind.wrap .i64 (2 * v2)) + 1)) + 1)), ()) w4) (
          k8 ((IntKind.wrap .i64 ((IntKind.wrap .i64 (2 * v2)) + 1)), ()) w4)) fun s9 w2 => match s9 with
      | (v7, _) =>
      ixA a0 a0n (IntKind.wrap .i64 (a3 + v2)) 4 fun p33 =>
      ldI .i64 (World.drew w2) (p33.add 0) fun x34 =>
      ldI .i64 (World.drew w2) (p33.add 1) fun x35 =>
      ldI .i64 (World.drew w2) (p33.add 2) fun x36 =>
      ldI .i64 (World.drew w2) (p33.add 3) fun x37 =>
      ixA a0 a0n (IntKind.wrap .i64 (a3 + v7)) 4 fun p38 =>
      ldI .i64 (World.drew w2) (p38.add 0) fun x39 =>
      ldI .i64 (World.drew w2) (p38.add 1) fun x40 =>
      ldI .i64 (World.drew w2) (p38.add 2) fun x41 =>
      ldI .i64 (World.drew w2) (p38.add 3) fun x42 =>
      clF Try.prog (a4) [.agg #[.int .i64 x34, .int .i64 x35, .int .i64 x36, .int .i64 x37], .agg #[.int .i64 x39, .int .i64 x40, .int .i64 x41, .int .i64 x42]] (World.drew w2) fun e44 w5 => ∃ x43 : Int, e44 = Ending.returned (.int .i64 x43) ∧
      pif (!(decide (x43 < 0))) (
        R (.tuple #[]) w5) (
        ixA a0 a0n (IntKind.wrap .i64 (a3 + v7)) 4 fun p45 =>
        ldI .i64 (World.drew w5) (p45.add 0) fun x46 =>
        ldI .i64 (World.drew w5) (p45.add 1) fun x47 =>
        ldI .i64 (World.drew w5) (p45.add 2) fun x48 =>
        ldI .i64 (World.drew w5) (p45.add 3) fun x49 =>
        ixA a0 a0n (IntKind.wrap .i64 (a3 + v2)) 4 fun p50 =>
        ldI .i64 (World.drew w5) (p50.add 0) fun x51 =>
        ldI .i64 (World.drew w5) (p50.add 1) fun x52 =>
        ldI .i64 (World.drew w5) (p50.add 2) fun x53 =>
        ldI .i64 (World.drew w5) (p50.add 3) fun x54 =>
        ixA a0 a0n (IntKind.wrap .i64 (a3 + v2)) 4 fun p55 =>
        st (World.drew w5) (p55.add 0) (.int .i64 x46) fun w6 =>
        st w6 (p55.add 1) (.int .i64 x47) fun w7 =>
        st w7 (p55.add 2) (.int .i64 x48) fun w8 =>
        st w8 (p55.add 3) (.int .i64 x49) fun w9 =>
        ixA a0 a0n (IntKind.wrap .i64 (a3 + v7)) 4 fun p56 =>
        st w9 (p56.add 0) (.int .i64 x51) fun w10 =>
        st w10 (p56.add 1) (.int .i64 x52) fun w11 =>
        st w11 (p56.add 2) (.int .i64 x53) fun w12 =>
        st w12 (p56.add 3) (.int .i64 x54) fun w13 =>
        k3 (v7, ()) w13))) (a1, ()) w
def An30 : An := .seq (.leaf) (.blk (.loop [(10, .one (.int .i64))] (.blk (.seq (.leaf) (.seq (.seq (.leaf) (.cond (.leaf) (.leaf))) (.seq (.join [(11, .one (.int .i64))] (.seq (.draw [0, 1, 0, 7, 15, 31, 31, 31, 31, 415, 991, 2015, 31, 31, 31, 24607, 57375, 127007, 258079, 524287, 1048575, 2097151]) (.cond (.leaf) (.leaf)))) (.seq (.seq (.draw [0, 0, 0, 0, 12, 30, 62, 0, 0, 0, 768, 1920, 3968, 8191, 16383, 32767]) (.cond (.leaf) (.leaf))) (.seq (.draw [0, 0, 0, 6, 0, 0, 0, 96, 0, 0, 0, 1536, 3840, 7936, 0, 0, 0, 98304, 245760, 507904, 1048335, 2096911, 4194303, 8388607]) (.leaf)))))))))
theorem V30_eq (a0 : Option Addr) (a0n : Nat) (a0c : Nat) (a1 : Int) (a2 : Int) (a3 : Int) (a4 : Value) (w : World) (R : Value → World → Prop) : evF Try.prog Try.f30 An30 [.slice a0 a0n a0c, .int .i64 a1, .int .i64 a2, .int .i64 a3, a4] w R = V30 a0 a0n a0c a1 a2 a3 a4 w R := by kernel_rfl
theorem V30_calls (a0 : Option Addr) (a0n : Nat) (a0c : Nat) (a1 : Int) (a2 : Int) (a3 : Int) (a4 : Value) (w : World) (R : Value → World → Prop) (h : V30 a0 a0n a0c a1 a2 a3 a4 w R) : Calls Try.prog 30 #[.slice a0 a0n a0c, .int .i64 a1, .int .i64 a2, .int .i64 a3, a4] w fun e w' => ∃ v, e = .returned v ∧ R v w' :=
  calls_of_ev (args := [.slice a0 a0n a0c, .int .i64 a1, .int .i64 a2, .int .i64 a3, a4]) Try.func30 (Nat.le_of_ble_eq_true (by kernel_rfl)) (by rw [V30_eq]; exact h)
theorem ok30 : fnOk Try.prog 30 = true := by kernel_rfl

/-! slices.nextPowerOfTwo -/
def V31 (a0 : Int) (w : World) (R : Value → World → Prop) : Prop :=
  cl Try.prog 16 [.int .u64 (IntKind.wrap .u64 a0)] w fun e4 w1 => ∃ x3 : Int, e4 = Ending.returned (.int .i64 x3) ∧
  0 ≤ x3 ∧
  R (.int .u64 (IntKind.wrap .u64 (1 * 2 ^ (min (Int.toNat x3) (IntKind.bits .u64))))) w1
def An31 : An := .seq (.leaf) (.seq (.leaf) (.leaf))
theorem V31_eq (a0 : Int) (w : World) (R : Value → World → Prop) : evF Try.prog Try.f31 An31 [.int .i64 a0] w R = V31 a0 w R := by kernel_rfl
theorem V31_calls (a0 : Int) (w : World) (R : Value → World → Prop) (h : V31 a0 w R) : Calls Try.prog 31 #[.int .i64 a0] w fun e w' => ∃ v, e = .returned v ∧ R v w' :=
  calls_of_ev (args := [.int .i64 a0]) Try.func31 (Nat.le_of_ble_eq_true (by kernel_rfl)) (by rw [V31_eq]; exact h)
theorem ok31 : fnOk Try.prog 31 = true := by kernel_rfl

/-! (*slices.xorshift).Next -/
def V32 (a0 : Option Addr) (w : World) (R : Value → World → Prop) : Prop :=
  nn a0 fun p2 =>
  ldI .u64 (World.drew w) p2 fun x3 =>
  nn a0 fun p4 =>
  ldI .u64 (World.drew w) p4 fun x5 =>
  nn a0 fun p6 =>
  st (World.drew w) (p6.add 0) (.int .u64 (bits .xor .u64 x3 (IntKind.wrap .u64 (x5 * 2 ^ (min (Int.toNat 13) (IntKind.bits .u64)))))) fun w1 =>
  nn a0 fun p7 =>
  ldI .u64 (World.drew w1) p7 fun x8 =>
  nn a0 fun p9 =>
  ldI .u64 (World.drew w1) p9 fun x10 =>
  nn a0 fun p11 =>
  st (World.drew w1) (p11.add 0) (.int .u64 (bits .xor .u64 x8 (Int.fdiv x10 (2 ^ (min (Int.toNat 7) (IntKind.bits .u64)))))) fun w2 =>
  nn a0 fun p12 =>
  ldI .u64 (World.drew w2) p12 fun x13 =>
  nn a0 fun p14 =>
  ldI .u64 (World.drew w2) p14 fun x15 =>
  nn a0 fun p16 =>
  st (World.drew w2) (p16.add 0) (.int .u64 (bits .xor .u64 x13 (IntKind.wrap .u64 (x15 * 2 ^ (min (Int.toNat 17) (IntKind.bits .u64)))))) fun w3 =>
  nn a0 fun p18 =>
  ldI .u64 w3 p18 fun x19 =>
  R (.int .u64 x19) w3
def An32 : An := .seq (.leaf) (.seq (.draw [0, 1, 3, 0, 8, 24, 56, 127, 255, 511]) (.seq (.draw [0, 1, 3, 0, 8, 24, 56, 127, 255, 511]) (.seq (.draw [0, 1, 3, 0, 8, 24, 56, 127, 255, 511]) (.seq (.leaf) (.leaf)))))
theorem V32_eq (a0 : Option Addr) (w : World) (R : Value → World → Prop) : evF Try.prog Try.f32 An32 [.pointer a0] w R = V32 a0 w R := by kernel_rfl
theorem V32_calls (a0 : Option Addr) (w : World) (R : Value → World → Prop) (h : V32 a0 w R) : Calls Try.prog 32 #[.pointer a0] w fun e w' => ∃ v, e = .returned v ∧ R v w' :=
  calls_of_ev (args := [.pointer a0]) Try.func32 (Nat.le_of_ble_eq_true (by kernel_rfl)) (by rw [V32_eq]; exact h)
theorem ok32 : fnOk Try.prog 32 = true := by kernel_rfl

/-! slices.medianAdjacentCmpFunc[depot/api.Fault] -/
def V33 (a0 : Option Addr) (a0n : Nat) (a0c : Nat) (a1 : Int) (a2 : Option Addr) (a3 : Value) (w : World) (R : Value → World → Prop) : Prop :=
  cl Try.prog 34 [.slice a0 a0n a0c, .int .i64 (IntKind.wrap .i64 (a1 - 1)), .int .i64 a1, .int .i64 (IntKind.wrap .i64 (a1 + 1)), .pointer a2, a3] w fun e4 w1 => ∃ x3 : Int, e4 = Ending.returned (.int .i64 x3) ∧
  R (.int .i64 x3) w1
def An33 : An := .seq (.leaf) (.seq (.leaf) (.leaf))
theorem V33_eq (a0 : Option Addr) (a0n : Nat) (a0c : Nat) (a1 : Int) (a2 : Option Addr) (a3 : Value) (w : World) (R : Value → World → Prop) : evF Try.prog Try.f33 An33 [.slice a0 a0n a0c, .int .i64 a1, .pointer a2, a3] w R = V33 a0 a0n a0c a1 a2 a3 w R := by kernel_rfl
theorem V33_calls (a0 : Option Addr) (a0n : Nat) (a0c : Nat) (a1 : Int) (a2 : Option Addr) (a3 : Value) (w : World) (R : Value → World → Prop) (h : V33 a0 a0n a0c a1 a2 a3 w R) : Calls Try.prog 33 #[.slice a0 a0n a0c, .int .i64 a1, .pointer a2, a3] w fun e w' => ∃ v, e = .returned v ∧ R v w' :=
  calls_of_ev (args := [.slice a0 a0n a0c, .int .i64 a1, .pointer a2, a3]) Try.func33 (Nat.le_of_ble_eq_true (by kernel_rfl)) (by rw [V33_eq]; exact h)
theorem ok33 : fnOk Try.prog 33 = true := by kernel_rfl

/-! slices.medianCmpFunc[depot/api.Fault] -/
def V34 (a0 : Option Addr) (a0n : Nat) (a0c : Nat) (a1 : Int) (a2 : Int) (a3 : Int) (a4 : Option Addr) (a5 : Value) (w : World) (R : Value → World → Prop) : Prop :=
  cl Try.prog 35 [.slice a0 a0n a0c, .int .i64 a1, .int .i64 a2, .pointer a4, a5] w fun e5 w1 => ∃ x3 : Int, ∃ x4 : Int, e5 = Ending.returned (.tuple #[.int .i64 x3, .int .i64 x4]) ∧
  cl Try.prog 35 [.slice a0 a0n a0c, .int .i64 x4, .int .i64 a3, .pointer a4, a5] w1 fun e9 w2 => ∃ x7 : Int, ∃ x8 : Int, e9 = Ending.returned (.tuple #[.int .i64 x7, .int .i64 x8]) ∧
  cl Try.prog 35 [.slice a0 a0n a0c, .int .i64 x3, .int .i64 x7, .pointer a4, a5] w2 fun e13 w3 => ∃ x11 : Int, ∃ x12 : Int, e13 = Ending.returned (.tuple #[.int .i64 x11, .int .i64 x12]) ∧
  R (.int .i64 x12) w3
def An34 : An := .seq (.leaf) (.seq (.leaf) (.seq (.leaf) (.seq (.leaf) (.seq (.leaf) (.leaf)))))
theorem V34_eq (a0 : Option Addr) (a0n : Nat) (a0c : Nat) (a1 : Int) (a2 : Int) (a3 : Int) (a4 : Option Addr) (a5 : Value) (w : World) (R : Value → World → Prop) : evF Try.prog Try.f34 An34 [.slice a0 a0n a0c, .int .i64 a1, .int .i64 a2, .int .i64 a3, .pointer a4, a5] w R = V34 a0 a0n a0c a1 a2 a3 a4 a5 w R := by kernel_rfl
theorem V34_calls (a0 : Option Addr) (a0n : Nat) (a0c : Nat) (a1 : Int) (a2 : Int) (a3 : Int) (a4 : Option Addr) (a5 : Value) (w : World) (R : Value → World → Prop) (h : V34 a0 a0n a0c a1 a2 a3 a4 a5 w R) : Calls Try.prog 34 #[.slice a0 a0n a0c, .int .i64 a1, .int .i64 a2, .int .i64 a3, .pointer a4, a5] w fun e w' => ∃ v, e = .returned v ∧ R v w' :=
  calls_of_ev (args := [.slice a0 a0n a0c, .int .i64 a1, .int .i64 a2, .int .i64 a3, .pointer a4, a5]) Try.func34 (Nat.le_of_ble_eq_true (by kernel_rfl)) (by rw [V34_eq]; exact h)
theorem ok34 : fnOk Try.prog 34 = true := by kernel_rfl

/-! slices.order2CmpFunc[depot/api.Fault] -/
def V35 (a0 : Option Addr) (a0n : Nat) (a0c : Nat) (a1 : Int) (a2 : Int) (a3 : Option Addr) (a4 : Value) (w : World) (R : Value → World → Prop) : Prop :=
  ixA a0 a0n a2 4 fun p2 =>
  ldI .i64 (World.drew w) (p2.add 0) fun x3 =>
  ldI .i64 (World.drew w) (p2.add 1) fun x4 =>
  ldI .i64 (World.drew w) (p2.add 2) fun x5 =>
  ldI .i64 (World.drew w) (p2.add 3) fun x6 =>
  ixA a0 a0n a1 4 fun p7 =>
  ldI .i64 (World.drew w) (p7.add 0) fun x8 =>
  ldI .i64 (World.drew w) (p7.add 1) fun x9 =>
  ldI .i64 (World.drew w) (p7.add 2) fun x10 =>
  ldI .i64 (World.drew w) (p7.add 3) fun x11 =>
  clF Try.prog (a4) [.agg #[.int .i64 x3, .int .i64 x4, .int .i64 x5, .int .i64 x6], .agg #[.int .i64 x8, .int .i64 x9, .int .i64 x10, .int .i64 x11]] (World.drew w) fun e13 w1 => ∃ x12 : Int, e13 = Ending.returned (.int .i64 x12) ∧
  pif (decide (x12 < 0)) (
    nn a3 fun p15 =>
    ldI .i64 w1 p15 fun x16 =>
    nn a3 fun p17 =>
    st w1 (p17.add 0) (.int .i64 (IntKind.wrap .i64 (x16 + 1))) fun w2 =>
    R (.tuple #[.int .i64 a2, .int .i64 a1]) w2) (
    R (.tuple #[.int .i64 a1, .int .i64 a2]) w1)
def An35 : An := .seq (.leaf) (.seq (.seq (.draw [0, 0, 0, 6, 14, 0, 0, 96, 224, 511, 1023]) (.cond (.seq (.leaf) (.seq (.leaf) (.leaf))) (.leaf))) (.seq (.leaf) (.leaf)))
theorem V35_eq (a0 : Option Addr) (a0n : Nat) (a0c : Nat) (a1 : Int) (a2 : Int) (a3 : Option Addr) (a4 : Value) (w : World) (R : Value → World → Prop) : evF Try.prog Try.f35 An35 [.slice a0 a0n a0c, .int .i64 a1, .int .i64 a2, .pointer a3, a4] w R = V35 a0 a0n a0c a1 a2 a3 a4 w R := by kernel_rfl
theorem V35_calls (a0 : Option Addr) (a0n : Nat) (a0c : Nat) (a1 : Int) (a2 : Int) (a3 : Option Addr) (a4 : Value) (w : World) (R : Value → World → Prop) (h : V35 a0 a0n a0c a1 a2 a3 a4 w R) : Calls Try.prog 35 #[.slice a0 a0n a0c, .int .i64 a1, .int .i64 a2, .pointer a3, a4] w fun e w' => ∃ v, e = .returned v ∧ R v w' :=
  calls_of_ev (args := [.slice a0 a0n a0c, .int .i64 a1, .int .i64 a2, .pointer a3, a4]) Try.func35 (Nat.le_of_ble_eq_true (by kernel_rfl)) (by rw [V35_eq]; exact h)
theorem ok35 : fnOk Try.prog 35 = true := by kernel_rfl

end Go.Proofs.Ytglhgmgegabinaa.T
