/- The conditions under which the functions printed here return, as propositions over typed values; each is the machine's own, by the generator's theorem. -/
import Derived.Test.YtjpblaenebodlaaProg
import Derived.Test.YtjpblaenebodlaaVcG
set_option linter.unusedVariables false
set_option maxRecDepth 100000
namespace Go.Proofs.Ytjpblaenebodlaa.T
open Go Go.Proofs.Ytjpblaenebodlaa.Vc
/-! slices.SortFunc[[]int,int] -/
def V56 (a0 : Option Addr) (a0n : Nat) (a0c : Nat) (a1 : Value) (w : World) (R : Value → World → Prop) : Prop :=
  cl Try.prog 71 [.int .u64 (IntKind.wrap .u64 (a0n : Int))] w fun e4 w1 => ∃ x3 : Int, e4 = Ending.returned (.int .i64 x3) ∧
  cl Try.prog 70 [.slice a0 a0n a0c, .int .i64 0, .int .i64 (a0n : Int), .int .i64 x3, a1] w1 fun e5 w2 => e5 = Ending.returned (.tuple #[]) ∧
  R (.tuple #[]) w2
def An56 : An := .seq (.leaf) (.leaf)
theorem V56_eq (a0 : Option Addr) (a0n : Nat) (a0c : Nat) (a1 : Value) (w : World) (R : Value → World → Prop) : evF Try.prog Try.f56 An56 [.slice a0 a0n a0c, a1] w R = V56 a0 a0n a0c a1 w R := by kernel_rfl
theorem V56_calls (a0 : Option Addr) (a0n : Nat) (a0c : Nat) (a1 : Value) (w : World) (R : Value → World → Prop) (h : V56 a0 a0n a0c a1 w R) : Calls Try.prog 56 #[.slice a0 a0n a0c, a1] w fun e w' => ∃ v, e = .returned v ∧ R v w' :=
  calls_of_ev (args := [.slice a0 a0n a0c, a1]) Try.func56 (Nat.le_of_ble_eq_true (by kernel_rfl)) (by rw [V56_eq]; exact h)
theorem ok56 : fnOk Try.prog 56 = true := by kernel_rfl

/-! slices.pdqsortCmpFunc[int] -/
def V70 (a0 : Option Addr) (a0n : Nat) (a0c : Nat) (a1 : Int) (a2 : Int) (a3 : Int) (a4 : Value) (w : World) (R : Value → World → Prop) : Prop :=
  lp (σ := Int × Int × Int × Bool × Bool × Unit) (fun s9 w1 k8 => match s9 with
    | (v3, v4, v5, v6, v7, _) =>
    pif (decide ((IntKind.wrap .i64 (v4 - v3)) ≤ 12)) (
      cl Try.prog 75 [.slice a0 a0n a0c, .int .i64 v3, .int .i64 v4, a4] w1 fun e13 w2 => e13 = Ending.returned (.tuple #[]) ∧
      R (.tuple #[]) w2) (
      pif (v5 == 0) (
        cl Try.prog 76 [.slice a0 a0n a0c, .int .i64 v3, .int .i64 v4, a4] w1 fun e16 w3 => e16 = Ending.returned (.tuple #[]) ∧
        R (.tuple #[]) w3) (
        jn (σ := Int × Unit) (fun k18 =>
          pif (!v6) (
            cl Try.prog 77 [.slice a0 a0n a0c, .int .i64 v3, .int .i64 v4, a4] w1 fun e22 w5 => e22 = Ending.returned (.tuple #[]) ∧
            k18 ((IntKind.wrap .i64 (v5 - 1)), ()) w5) (
            k18 (v5, ()) w1)) fun s19 w4 => match s19 with
        | (v17, _) =>
        cl Try.prog 78 [.slice a0 a0n a0c, .int .i64 v3, .int .i64 v4, a4] w4 fun e27 w6 => ∃ x25 : Int, ∃ x26 : Int, e27 = Ending.returned (.tuple #[.int .i64 x25, .int .i64 x26]) ∧
        jn (σ := Int × Int × Unit) (fun k30 =>
          pif (x26 == 2) (
            cl Try.prog 79 [.slice a0 a0n a0c, .int .i64 v3, .int .i64 v4, a4] w6 fun e34 w8 => e34 = Ending.returned (.tuple #[]) ∧
            k30 ((IntKind.wrap .i64 ((IntKind.wrap .i64 (v4 - 1)) - (IntKind.wrap .i64 (x25 - v3)))), 1, ()) w8) (
            k30 (x25, x26, ()) w6)) fun s31 w7 => match s31 with
        | (v28, v29, _) =>
        jn (σ := Unit) (fun k37 =>
          pif (cond (cond v6 v7 false) (v29 == 1) false) (
            cl Try.prog 80 [.slice a0 a0n a0c, .int .i64 v3, .int .i64 v4, a4] w7 fun e42 w10 => ∃ x41 : Bool, e42 = Ending.returned (.bool x41) ∧
            pif x41 (
              R (.tuple #[]) w10) (
              k37 (()) w10)) (
            k37 (()) w7)) fun s38 w9 => match s38 with
        | (_) =>
        gd (α := Addr) (decide (v3 > 0)) (fun k43 =>
          ixA a0 a0n (IntKind.wrap .i64 (v3 - 1)) 1 fun p44 =>
          k43 p44 (World.drew w9)) ⟨0, 0, none⟩ (World.drew w9) fun x45 _ =>
        gd (α := Int) (decide (v3 > 0)) (fun k46 =>
          ldI .i64 (World.drew w9) x45 fun x47 =>
          k46 x47 (World.drew w9)) 0 (World.drew w9) fun x48 _ =>
        gd (α := Addr) (decide (v3 > 0)) (fun k49 =>
          ixA a0 a0n v28 1 fun p50 =>
          k49 p50 (World.drew w9)) ⟨0, 0, none⟩ (World.drew w9) fun x51 _ =>
        gd (α := Int) (decide (v3 > 0)) (fun k52 =>
          ldI .i64 (World.drew w9) x51 fun x53 =>
          k52 x53 (World.drew w9)) 0 (World.drew w9) fun x54 _ =>
        gd (α := Int) (decide (v3 > 0)) (fun k55 =>
          clF Try.prog (a4) [.int .i64 x48, .int .i64 x54] (World.drew w9) fun e57 w11 => ∃ x56 : Int, e57 = Ending.returned (.int .i64 x56) ∧
          k55 x56 w11) 0 (World.drew w9) fun x58 w12 =>
        pif (cond (decide (v3 > 0)) (!(decide (x58 < 0))) false) (
          cl Try.prog 81 [.slice a0 a0n a0c, .int .i64 v3, .int .i64 v4, .int .i64 v28, a4] w12 fun e61 w13 => ∃ x60 : Int, e61 = Ending.returned (.int .i64 x60) ∧
          k8 (x60, v4, v17, v6, v7, ()) w13) (
          cl Try.prog 82 [.slice a0 a0n a0c, .int .i64 v3, .int .i64 v4, .int .i64 v28, a4] w12 fun e66 w14 => ∃ x64 : Int, ∃ x65 : Bool, e66 = Ending.returned (.tuple #[.int .i64 x64, .bool x65]) ∧
          pif (decide ((IntKind.wrap .i64 (x64 - v3)) < (IntKind.wrap .i64 (v4 - x64)))) (
            cl Try.prog 70 [.slice a0 a0n a0c, .int .i64 v3, .int .i64 x64, .int .i64 v17, a4] w14 fun e73 w15 => e73 = Ending.returned (.tuple #[]) ∧
            k8 ((IntKind.wrap .i64 (x64 + 1)), v4, v17, (decide ((IntKind.wrap .i64 (x64 - v3)) ≥ (IntKind.wrap .i64 (Int.tdiv (IntKind.wrap .i64 (v4 - v3)) 8)))), x65, ()) w15) (
            cl Try.prog 70 [.slice a0 a0n a0c, .int .i64 (IntKind.wrap .i64 (x64 + 1)), .int .i64 v4, .int .i64 v17, a4] w14 fun e77 w16 => e77 = Ending.returned (.tuple #[]) ∧
            k8 (v3, x64, v17, (decide ((IntKind.wrap .i64 (v4 - x64)) ≥ (IntKind.wrap .i64 (Int.tdiv (IntKind.wrap .i64 (v4 - v3)) 8)))), x65, ()) w16))))) (a1, a2, a3, true, true, ()) w
def An70 : An := .seq (.leaf) (.seq (.leaf) (.blk (.loop [(1, .one (.int .i64)), (2, .one (.int .i64)), (3, .one (.int .i64)), (10, .one (.bool)), (11, .one (.bool))] (.blk (.seq (.leaf) (.seq (.seq (.leaf) (.cond (.seq (.leaf) (.leaf)) (.leaf))) (.seq (.seq (.leaf) (.cond (.seq (.leaf) (.leaf)) (.leaf))) (.seq (.join [(3, .one (.int .i64))] (.seq (.leaf) (.cond (.seq (.leaf) (.leaf)) (.leaf)))) (.seq (.leaf) (.seq (.join [(13, .one (.int .i64)), (14, .one (.int .i64))] (.seq (.leaf) (.cond (.seq (.leaf) (.seq (.leaf) (.leaf))) (.leaf)))) (.seq (.join [] (.seq (.leaf) (.cond (.seq (.leaf) (.cond (.leaf) (.leaf))) (.leaf)))) (.seq (.seq (.draw [0, 1, 3, 7, 7, 7, 39, 119, 247, 7, 7, 1543, 3591, 8191, 16383, 32767, 65535]) (.cond (.seq (.leaf) (.seq (.leaf) (.leaf))) (.leaf))) (.seq (.leaf) (.seq (.leaf) (.seq (.leaf) (.seq (.leaf) (.seq (.leaf) (.cond (.seq (.leaf) (.seq (.leaf) (.leaf))) (.seq (.leaf) (.seq (.leaf) (.leaf)))))))))))))))))))))
theorem V70_eq (a0 : Option Addr) (a0n : Nat) (a0c : Nat) (a1 : Int) (a2 : Int) (a3 : Int) (a4 : Value) (w : World) (R : Value → World → Prop) : evF Try.prog Try.f70 An70 [.slice a0 a0n a0c, .int .i64 a1, .int .i64 a2, .int .i64 a3, a4] w R = V70 a0 a0n a0c a1 a2 a3 a4 w R := by kernel_rfl
theorem V70_calls (a0 : Option Addr) (a0n : Nat) (a0c : Nat) (a1 : Int) (a2 : Int) (a3 : Int) (a4 : Value) (w : World) (R : Value → World → Prop) (h : V70 a0 a0n a0c a1 a2 a3 a4 w R) : Calls Try.prog 70 #[.slice a0 a0n a0c, .int .i64 a1, .int .i64 a2, .int .i64 a3, a4] w fun e w' => ∃ v, e = .returned v ∧ R v w' :=
  calls_of_ev (args := [.slice a0 a0n a0c, .int .i64 a1, .int .i64 a2, .int .i64 a3, a4]) Try.func70 (Nat.le_of_ble_eq_true (by kernel_rfl)) (by rw [V70_eq]; exact h)
theorem ok70 : fnOk Try.prog 70 = true := by kernel_rfl

/-! math/bits.Len -/
def V71 (a0 : Int) (w : World) (R : Value → World → Prop) : Prop :=
  pif false (
    cl Try.prog 83 [.int .u32 (IntKind.wrap .u32 a0)] w fun e4 w1 => ∃ x3 : Int, e4 = Ending.returned (.int .i64 x3) ∧
    R (.int .i64 x3) w1) (
    cl Try.prog 84 [.int .u64 a0] w fun e7 w2 => ∃ x6 : Int, e7 = Ending.returned (.int .i64 x6) ∧
    R (.int .i64 x6) w2)
def An71 : An := .seq (.leaf) (.seq (.cond (.seq (.leaf) (.leaf)) (.leaf)) (.seq (.leaf) (.leaf)))
theorem V71_eq (a0 : Int) (w : World) (R : Value → World → Prop) : evF Try.prog Try.f71 An71 [.int .u64 a0] w R = V71 a0 w R := by kernel_rfl
theorem V71_calls (a0 : Int) (w : World) (R : Value → World → Prop) (h : V71 a0 w R) : Calls Try.prog 71 #[.int .u64 a0] w fun e w' => ∃ v, e = .returned v ∧ R v w' :=
  calls_of_ev (args := [.int .u64 a0]) Try.func71 (Nat.le_of_ble_eq_true (by kernel_rfl)) (by rw [V71_eq]; exact h)
theorem ok71 : fnOk Try.prog 71 = true := by kernel_rfl

/-! slices.insertionSortCmpFunc[int] -/
def V75 (a0 : Option Addr) (a0n : Nat) (a0c : Nat) (a1 : Int) (a2 : Int) (a3 : Value) (w : World) (R : Value → World → Prop) : Prop :=
  lp (σ := Int × Unit) (fun s4 w1 k3 => match s4 with
    | (v2, _) =>
    pif (decide (v2 < a2)) (
      lp (σ := Int × Unit) (fun s9 w2 k8 => match s9 with
        | (v7, _) =>
        gd (α := Addr) (decide (v7 > a1)) (fun k10 =>
          ixA a0 a0n v7 1 fun p11 =>
          k10 p11 (World.drew w2)) ⟨0, 0, none⟩ (World.drew w2) fun x12 _ =>
        gd (α := Int) (decide (v7 > a1)) (fun k13 =>
          ldI .i64 (World.drew w2) x12 fun x14 =>
          k13 x14 (World.drew w2)) 0 (World.drew w2) fun x15 _ =>
        gd (α := Addr) (decide (v7 > a1)) (fun k16 =>
          ixA a0 a0n (IntKind.wrap .i64 (v7 - 1)) 1 fun p17 =>
          k16 p17 (World.drew w2)) ⟨0, 0, none⟩ (World.drew w2) fun x18 _ =>
        gd (α := Int) (decide (v7 > a1)) (fun k19 =>
          ldI .i64 (World.drew w2) x18 fun x20 =>
          k19 x20 (World.drew w2)) 0 (World.drew w2) fun x21 _ =>
        gd (α := Int) (decide (v7 > a1)) (fun k22 =>
          clF Try.prog (a3) [.int .i64 x15, .int .i64 x21] (World.drew w2) fun e24 w3 => ∃ x23 : Int, e24 = Ending.returned (.int .i64 x23) ∧
          k22 x23 w3) 0 (World.drew w2) fun x25 w4 =>
        pif (cond (decide (v7 > a1)) (decide (x25 < 0)) false) (
          ixA a0 a0n (IntKind.wrap .i64 (v7 - 1)) 1 fun p26 =>
          ldI .i64 (World.drew w4) p26 fun x27 =>
          ixA a0 a0n v7 1 fun p28 =>
          ldI .i64 (World.drew w4) p28 fun x29 =>
          ixA a0 a0n v7 1 fun p30 =>
          st (World.drew w4) (p30.add 0) (.int .i64 x27) fun w5 =>
          ixA a0 a0n (IntKind.wrap .i64 (v7 - 1)) 1 fun p31 =>
          st w5 (p31.add 0) (.int .i64 x29) fun w6 =>
          k8 ((IntKind.wrap .i64 (v7 - 1)), ()) w6) (
          k3 ((IntKind.wrap .i64 (v2 + 1)), ()) w4)) (v2, ()) w1) (
      R (.tuple #[]) w1)) ((IntKind.wrap .i64 (a1 + 1)), ()) w
def An75 : An := .seq (.leaf) (.blk (.loop [(8, .one (.int .i64))] (.seq (.seq (.leaf) (.cond (.leaf) (.leaf))) (.seq (.blk (.seq (.leaf) (.blk (.loop [(9, .one (.int .i64))] (.seq (.seq (.draw [0, 0, 3, 7, 15, 15, 15, 111, 239, 15, 15, 1039, 3599, 7695, 16383, 32767, 65535]) (.cond (.leaf) (.leaf))) (.seq (.blk (.draw [0, 0, 0, 0, 8, 0, 0, 64, 224, 480, 0, 0, 3072, 7168, 16355, 32739, 65535, 131071])) (.leaf))))))) (.leaf)))))
theorem V75_eq (a0 : Option Addr) (a0n : Nat) (a0c : Nat) (a1 : Int) (a2 : Int) (a3 : Value) (w : World) (R : Value → World → Prop) : evF Try.prog Try.f75 An75 [.slice a0 a0n a0c, .int .i64 a1, .int .i64 a2, a3] w R = V75 a0 a0n a0c a1 a2 a3 w R := by kernel_rfl
theorem V75_calls (a0 : Option Addr) (a0n : Nat) (a0c : Nat) (a1 : Int) (a2 : Int) (a3 : Value) (w : World) (R : Value → World → Prop) (h : V75 a0 a0n a0c a1 a2 a3 w R) : Calls Try.prog 75 #[.slice a0 a0n a0c, .int .i64 a1, .int .i64 a2, a3] w fun e w' => ∃ v, e = .returned v ∧ R v w' :=
  calls_of_ev (args := [.slice a0 a0n a0c, .int .i64 a1, .int .i64 a2, a3]) Try.func75 (Nat.le_of_ble_eq_true (by kernel_rfl)) (by rw [V75_eq]; exact h)
theorem ok75 : fnOk Try.prog 75 = true := by kernel_rfl

/-! slices.heapSortCmpFunc[int] -/
def V76 (a0 : Option Addr) (a0n : Nat) (a0c : Nat) (a1 : Int) (a2 : Int) (a3 : Value) (w : World) (R : Value → World → Prop) : Prop :=
  lp (σ := Int × Unit) (fun s7 w1 k6 => match s7 with
    | (v5, _) =>
    pif (decide (v5 ≥ 0)) (
      cl Try.prog 89 [.slice a0 a0n a0c, .int .i64 v5, .int .i64 (IntKind.wrap .i64 (a2 - a1)), .int .i64 a1, a3] w1 fun e10 w2 => e10 = Ending.returned (.tuple #[]) ∧
      k6 ((IntKind.wrap .i64 (v5 - 1)), ()) w2) (
      lp (σ := Int × Unit) (fun s15 w3 k14 => match s15 with
        | (v13, _) =>
        pif (decide (v13 ≥ 0)) (
          ixA a0 a0n (IntKind.wrap .i64 (a1 + v13)) 1 fun p17 =>
          ldI .i64 (World.drew w3) p17 fun x18 =>
          ixA a0 a0n a1 1 fun p19 =>
          ldI .i64 (World.drew w3) p19 fun x20 =>
          ixA a0 a0n a1 1 fun p21 =>
          st (World.drew w3) (p21.add 0) (.int .i64 x18) fun w4 =>
          ixA a0 a0n (IntKind.wrap .i64 (a1 + v13)) 1 fun p22 =>
          st w4 (p22.add 0) (.int .i64 x20) fun w5 =>
          cl Try.prog 89 [.slice a0 a0n a0c, .int .i64 0, .int .i64 v13, .int .i64 a1, a3] w5 fun e24 w6 => e24 = Ending.returned (.tuple #[]) ∧
          k14 ((IntKind.wrap .i64 (v13 - 1)), ()) w6) (
          R (.tuple #[]) w3)) ((IntKind.wrap .i64 ((IntKind.wrap .i64 (a2 - a1)) - 1)), ()) w1)) ((IntKind.wrap .i64 (Int.tdiv (IntKind.wrap .i64 ((IntKind.wrap .i64 (a2 - a1)) - 1)) 2)), ()) w
def An76 : An := .seq (.leaf) (.seq (.leaf) (.seq (.leaf) (.seq (.seq (.leaf) (.blk (.loop [(11, .one (.int .i64))] (.seq (.seq (.leaf) (.cond (.leaf) (.leaf))) (.seq (.blk (.leaf)) (.leaf)))))) (.seq (.leaf) (.blk (.loop [(12, .one (.int .i64))] (.seq (.seq (.leaf) (.cond (.leaf) (.leaf))) (.seq (.blk (.seq (.draw [0, 0, 0, 0, 0, 24, 0, 0, 0, 384, 960, 1984, 0, 0, 12288, 28672, 65475, 131011, 262143, 524287]) (.leaf))) (.leaf)))))))))
theorem V76_eq (a0 : Option Addr) (a0n : Nat) (a0c : Nat) (a1 : Int) (a2 : Int) (a3 : Value) (w : World) (R : Value → World → Prop) : evF Try.prog Try.f76 An76 [.slice a0 a0n a0c, .int .i64 a1, .int .i64 a2, a3] w R = V76 a0 a0n a0c a1 a2 a3 w R := by kernel_rfl
theorem V76_calls (a0 : Option Addr) (a0n : Nat) (a0c : Nat) (a1 : Int) (a2 : Int) (a3 : Value) (w : World) (R : Value → World → Prop) (h : V76 a0 a0n a0c a1 a2 a3 w R) : Calls Try.prog 76 #[.slice a0 a0n a0c, .int .i64 a1, .int .i64 a2, a3] w fun e w' => ∃ v, e = .returned v ∧ R v w' :=
  calls_of_ev (args := [.slice a0 a0n a0c, .int .i64 a1, .int .i64 a2, a3]) Try.func76 (Nat.le_of_ble_eq_true (by kernel_rfl)) (by rw [V76_eq]; exact h)
theorem ok76 : fnOk Try.prog 76 = true := by kernel_rfl

/-! slices.breakPatternsCmpFunc[int] -/
def V77 (a0 : Option Addr) (a0n : Nat) (a0c : Nat) (a1 : Int) (a2 : Int) (a3 : Value) (w : World) (R : Value → World → Prop) : Prop :=
  pif (decide ((IntKind.wrap .i64 (a2 - a1)) ≥ 8)) (
    alc w [.int .u64 0] 115 fun b4 w1 =>
    st w1 ((⟨b4, 0, none⟩ : Addr).add 0) (.int .u64 (IntKind.wrap .u64 (IntKind.wrap .i64 (a2 - a1)))) fun w2 =>
    cl Try.prog 90 [.int .i64 (IntKind.wrap .i64 (a2 - a1))] w2 fun e7 w3 => ∃ x6 : Int, e7 = Ending.returned (.int .u64 x6) ∧
    lp (σ := Int × Unit) (fun s11 w4 k10 => match s11 with
      | (v9, _) =>
      pif (decide (v9 ≤ (IntKind.wrap .i64 ((IntKind.wrap .i64 (a1 + (IntKind.wrap .i64 ((IntKind.wrap .i64 (Int.tdiv (IntKind.wrap .i64 (a2 - a1)) 4)) * 2)))) + 1)))) (
        cl Try.prog 91 [.pointer (some (⟨b4, 0, none⟩ : Addr))] w4 fun e15 w5 => ∃ x14 : Int, e15 = Ending.returned (.int .u64 x14) ∧
        jn (σ := Int × Unit) (fun k17 =>
          pif (decide ((IntKind.wrap .i64 (bits .and .u64 x14 (IntKind.wrap .u64 (x6 - 1)))) ≥ (IntKind.wrap .i64 (a2 - a1)))) (
            k17 ((IntKind.wrap .i64 ((IntKind.wrap .i64 (bits .and .u64 x14 (IntKind.wrap .u64 (x6 - 1)))) - (IntKind.wrap .i64 (a2 - a1)))), ()) w5) (
            k17 ((IntKind.wrap .i64 (bits .and .u64 x14 (IntKind.wrap .u64 (x6 - 1)))), ()) w5)) fun s18 w6 => match s18 with
        | (v16, _) =>
        ixA a0 a0n (IntKind.wrap .i64 (a1 + v16)) 1 fun p21 =>
        ldI .i64 (World.drew w6) p21 fun x22 =>
        ixA a0 a0n v9 1 fun p23 =>
        ldI .i64 (World.drew w6) p23 fun x24 =>
        ixA a0 a0n v9 1 fun p25 =>
        st (World.drew w6) (p25.add 0) (.int .i64 x22) fun w7 =>
        ixA a0 a0n (IntKind.wrap .i64 (a1 + v16)) 1 fun p26 =>
        st w7 (p26.add 0) (.int .i64 x24) fun w8 =>
        k10 ((IntKind.wrap .i64 (v9 + 1)), ()) w8) (
        R (.tuple #[]) w4)) ((IntKind.wrap .i64 ((IntKind.wrap .i64 (a1 + (IntKind.wrap .i64 ((IntKind.wrap .i64 (Int.tdiv (IntKind.wrap .i64 (a2 - a1)) 4)) * 2)))) - 1)), ()) w3) (
    R (.tuple #[]) w)
def An77 : An := .seq (.leaf) (.seq (.leaf) (.cond (.seq (.leaf) (.seq (.leaf) (.seq (.leaf) (.blk (.loop [(11, .one (.int .i64))] (.seq (.seq (.leaf) (.cond (.leaf) (.leaf))) (.seq (.blk (.seq (.leaf) (.seq (.join [(12, .one (.int .i64))] (.seq (.leaf) (.cond (.leaf) (.leaf)))) (.draw [0, 0, 0, 0, 0, 24, 0, 0, 0, 384, 960, 1984, 0, 0, 12288, 28672, 65475, 131011, 262143, 524287])))) (.leaf)))))))) (.leaf)))
theorem V77_eq (a0 : Option Addr) (a0n : Nat) (a0c : Nat) (a1 : Int) (a2 : Int) (a3 : Value) (w : World) (R : Value → World → Prop) : evF Try.prog Try.f77 An77 [.slice a0 a0n a0c, .int .i64 a1, .int .i64 a2, a3] w R = V77 a0 a0n a0c a1 a2 a3 w R := by kernel_rfl
theorem V77_calls (a0 : Option Addr) (a0n : Nat) (a0c : Nat) (a1 : Int) (a2 : Int) (a3 : Value) (w : World) (R : Value → World → Prop) (h : V77 a0 a0n a0c a1 a2 a3 w R) : Calls Try.prog 77 #[.slice a0 a0n a0c, .int .i64 a1, .int .i64 a2, a3] w fun e w' => ∃ v, e = .returned v ∧ R v w' :=
  calls_of_ev (args := [.slice a0 a0n a0c, .int .i64 a1, .int .i64 a2, a3]) Try.func77 (Nat.le_of_ble_eq_true (by kernel_rfl)) (by rw [V77_eq]; exact h)
theorem ok77 : fnOk Try.prog 77 = true := by kernel_rfl

/-! slices.choosePivotCmpFunc[int] -/
def V78 (a0 : Option Addr) (a0n : Nat) (a0c : Nat) (a1 : Int) (a2 : Int) (a3 : Value) (w : World) (R : Value → World → Prop) : Prop :=
  alc w [.int .i64 0] 3 fun b4 w1 =>
  jn (σ := Int × Unit) (fun k9 =>
    pif (decide ((IntKind.wrap .i64 (a2 - a1)) ≥ 8)) (
      jn (σ := Int × Int × Int × Unit) (fun k15 =>
        pif (decide ((IntKind.wrap .i64 (a2 - a1)) ≥ 50)) (
          cl Try.prog 92 [.slice a0 a0n a0c, .int .i64 (IntKind.wrap .i64 (a1 + (IntKind.wrap .i64 ((IntKind.wrap .i64 (Int.tdiv (IntKind.wrap .i64 (a2 - a1)) 4)) * 1)))), .pointer (some (⟨b4, 0, none⟩ : Addr)), a3] w1 fun e20 w4 => ∃ x19 : Int, e20 = Ending.returned (.int .i64 x19) ∧
          cl Try.prog 92 [.slice a0 a0n a0c, .int .i64 (IntKind.wrap .i64 (a1 + (IntKind.wrap .i64 ((IntKind.wrap .i64 (Int.tdiv (IntKind.wrap .i64 (a2 - a1)) 4)) * 2)))), .pointer (some (⟨b4, 0, none⟩ : Addr)), a3] w4 fun e23 w5 => ∃ x22 : Int, e23 = Ending.returned (.int .i64 x22) ∧
          cl Try.prog 92 [.slice a0 a0n a0c, .int .i64 (IntKind.wrap .i64 (a1 + (IntKind.wrap .i64 ((IntKind.wrap .i64 (Int.tdiv (IntKind.wrap .i64 (a2 - a1)) 4)) * 3)))), .pointer (some (⟨b4, 0, none⟩ : Addr)), a3] w5 fun e26 w6 => ∃ x25 : Int, e26 = Ending.returned (.int .i64 x25) ∧
          k15 (x19, x22, x25, ()) w6) (
          k15 ((IntKind.wrap .i64 (a1 + (IntKind.wrap .i64 ((IntKind.wrap .i64 (Int.tdiv (IntKind.wrap .i64 (a2 - a1)) 4)) * 1)))), (IntKind.wrap .i64 (a1 + (IntKind.wrap .i64 ((IntKind.wrap .i64 (Int.tdiv (IntKind.wrap .i64 (a2 - a1)) 4)) * 2)))), (IntKind.wrap .i64 (a1 + (IntKind.wrap .i64 ((IntKind.wrap .i64 (Int.tdiv (IntKind.wrap .i64 (a2 - a1)) 4)) * 3)))), ()) w1)) fun s16 w3 => match s16 with
      | (v12, v13, v14, _) =>
      cl Try.prog 93 [.slice a0 a0n a0c, .int .i64 v12, .int .i64 v13, .int .i64 v14, .pointer (some (⟨b4, 0, none⟩ : Addr)), a3] w3 fun e29 w7 => ∃ x28 : Int, e29 = Ending.returned (.int .i64 x28) ∧
      k9 (x28, ()) w7) (
      k9 ((IntKind.wrap .i64 (a1 + (IntKind.wrap .i64 ((IntKind.wrap .i64 (Int.tdiv (IntKind.wrap .i64 (a2 - a1)) 4)) * 2)))), ()) w1)) fun s10 w2 => match s10 with
  | (v8, _) =>
  ldI .i64 w2 (⟨b4, 0, none⟩ : Addr) fun x31 =>
  pif (x31 == 0) (
    R (.tuple #[.int .i64 v8, .int .i64 1]) w2) (
    pif (x31 == 12) (
      R (.tuple #[.int .i64 v8, .int .i64 2]) w2) (
      R (.tuple #[.int .i64 v8, .int .i64 0]) w2))
def An78 : An := .seq (.leaf) (.seq (.leaf) (.seq (.leaf) (.seq (.leaf) (.seq (.leaf) (.seq (.leaf) (.seq (.join [(13, .one (.int .i64))] (.seq (.leaf) (.cond (.seq (.join [(12, .one (.int .i64)), (13, .one (.int .i64)), (14, .one (.int .i64))] (.seq (.leaf) (.cond (.seq (.leaf) (.seq (.leaf) (.leaf))) (.leaf)))) (.leaf)) (.leaf)))) (.seq (.leaf) (.blk (.seq (.leaf) (.cond (.seq (.leaf) (.leaf)) (.seq (.leaf) (.cond (.seq (.leaf) (.leaf)) (.seq (.leaf) (.leaf))))))))))))))
theorem V78_eq (a0 : Option Addr) (a0n : Nat) (a0c : Nat) (a1 : Int) (a2 : Int) (a3 : Value) (w : World) (R : Value → World → Prop) : evF Try.prog Try.f78 An78 [.slice a0 a0n a0c, .int .i64 a1, .int .i64 a2, a3] w R = V78 a0 a0n a0c a1 a2 a3 w R := by kernel_rfl
theorem V78_calls (a0 : Option Addr) (a0n : Nat) (a0c : Nat) (a1 : Int) (a2 : Int) (a3 : Value) (w : World) (R : Value → World → Prop) (h : V78 a0 a0n a0c a1 a2 a3 w R) : Calls Try.prog 78 #[.slice a0 a0n a0c, .int .i64 a1, .int .i64 a2, a3] w fun e w' => ∃ v, e = .returned v ∧ R v w' :=
  calls_of_ev (args := [.slice a0 a0n a0c, .int .i64 a1, .int .i64 a2, a3]) Try.func78 (Nat.le_of_ble_eq_true (by kernel_rfl)) (by rw [V78_eq]; exact h)
theorem ok78 : fnOk Try.prog 78 = true := by kernel_rfl

/-! slices.reverseRangeCmpFunc[int] -/
def V79 (a0 : Option Addr) (a0n : Nat) (a0c : Nat) (a1 : Int) (a2 : Int) (a3 : Value) (w : World) (R : Value → World → Prop) : Prop :=
  lp (σ := Int × Int × Unit) (fun s6 w1 k5 => match s6 with
    | (v3, v4, _) =>
    pif (decide (v3 < v4)) (
      ixA a0 a0n v4 1 fun p8 =>
      ldI .i64 (World.drew w1) p8 fun x9 =>
      ixA a0 a0n v3 1 fun p10 =>
      ldI .i64 (World.drew w1) p10 fun x11 =>
      ixA a0 a0n v3 1 fun p12 =>
      st (World.drew w1) (p12.add 0) (.int .i64 x9) fun w2 =>
      ixA a0 a0n v4 1 fun p13 =>
      st w2 (p13.add 0) (.int .i64 x11) fun w3 =>
      k5 ((IntKind.wrap .i64 (v3 + 1)), (IntKind.wrap .i64 (v4 - 1)), ()) w3) (
      R (.tuple #[]) w1)) (a1, (IntKind.wrap .i64 (a2 - 1)), ()) w
def An79 : An := .seq (.leaf) (.seq (.leaf) (.blk (.loop [(8, .one (.int .i64)), (9, .one (.int .i64))] (.seq (.seq (.leaf) (.cond (.leaf) (.leaf))) (.blk (.seq (.draw [0, 0, 0, 0, 0, 0, 48, 112, 0, 0, 768, 1792, 4083, 8179, 16383, 32767]) (.seq (.leaf) (.leaf))))))))
theorem V79_eq (a0 : Option Addr) (a0n : Nat) (a0c : Nat) (a1 : Int) (a2 : Int) (a3 : Value) (w : World) (R : Value → World → Prop) : evF Try.prog Try.f79 An79 [.slice a0 a0n a0c, .int .i64 a1, .int .i64 a2, a3] w R = V79 a0 a0n a0c a1 a2 a3 w R := by kernel_rfl
theorem V79_calls (a0 : Option Addr) (a0n : Nat) (a0c : Nat) (a1 : Int) (a2 : Int) (a3 : Value) (w : World) (R : Value → World → Prop) (h : V79 a0 a0n a0c a1 a2 a3 w R) : Calls Try.prog 79 #[.slice a0 a0n a0c, .int .i64 a1, .int .i64 a2, a3] w fun e w' => ∃ v, e = .returned v ∧ R v w' :=
  calls_of_ev (args := [.slice a0 a0n a0c, .int .i64 a1, .int .i64 a2, a3]) Try.func79 (Nat.le_of_ble_eq_true (by kernel_rfl)) (by rw [V79_eq]; exact h)
theorem ok79 : fnOk Try.prog 79 = true := by kernel_rfl

/-! slices.partialInsertionSortCmpFunc[int] -/
def V80 (a0 : Option Addr) (a0n : Nat) (a0c : Nat) (a1 : Int) (a2 : Int) (a3 : Value) (w : World) (R : Value → World → Prop) : Prop :=
  lp (σ := Int × Int × Unit) (fun s7 w1 k6 => match s7 with
    | (v4, v5, _) =>
    pif (decide (v5 < 5)) (
      jn (σ := Int × Unit) (fun k10 =>
        lp (σ := Int × Unit) (fun s14 w3 k13 => match s14 with
          | (v12, _) =>
          gd (α := Addr) (decide (v12 < a2)) (fun k15 =>
            ixA a0 a0n v12 1 fun p16 =>
            k15 p16 (World.drew w3)) ⟨0, 0, none⟩ (World.drew w3) fun x17 _ =>
          gd (α := Int) (decide (v12 < a2)) (fun k18 =>
            ldI .i64 (World.drew w3) x17 fun x19 =>
            k18 x19 (World.drew w3)) 0 (World.drew w3) fun x20 _ =>
          gd (α := Addr) (decide (v12 < a2)) (fun k21 =>
            ixA a0 a0n (IntKind.wrap .i64 (v12 - 1)) 1 fun p22 =>
            k21 p22 (World.drew w3)) ⟨0, 0, none⟩ (World.drew w3) fun x23 _ =>
          gd (α := Int) (decide (v12 < a2)) (fun k24 =>
            ldI .i64 (World.drew w3) x23 fun x25 =>
            k24 x25 (World.drew w3)) 0 (World.drew w3) fun x26 _ =>
          gd (α := Int) (decide (v12 < a2)) (fun k27 =>
            clF Try.prog (a3) [.int .i64 x20, .int .i64 x26] (World.drew w3) fun e29 w4 => ∃ x28 : Int, e29 = Ending.returned (.int .i64 x28) ∧
            k27 x28 w4) 0 (World.drew w3) fun x30 w5 =>
          pif (cond (decide (v12 < a2)) (!(decide (x30 < 0))) false) (
            k13 ((IntKind.wrap .i64 (v12 + 1)), ()) w5) (
            pif (v12 == a2) (
              R (.bool true) w5) (
              pif (decide ((IntKind.wrap .i64 (a2 - a1)) < 50)) (
                R (.bool false) w5) (
                ixA a0 a0n (IntKind.wrap .i64 (v12 - 1)) 1 fun p36 =>
                ldI .i64 (World.drew w5) p36 fun x37 =>
                ixA a0 a0n v12 1 fun p38 =>
                ldI .i64 (World.drew w5) p38 fun x39 =>
                ixA a0 a0n v12 1 fun p40 =>
                st (World.drew w5) (p40.add 0) (.int .i64 x37) fun w6 =>
                ixA a0 a0n (IntKind.wrap .i64 (v12 - 1)) 1 fun p41 =>
                st w6 (p41.add 0) (.int .i64 x39) fun w7 =>
                jn (σ := Unit) (fun k42 =>
                  pif (decide ((IntKind.wrap .i64 (v12 - a1)) ≥ 2)) (
                    lp (σ := Int × Unit) (fun s48 w9 k47 => match s48 with
                      | (v46, _) =>
                      pif (decide (v46 ≥ 1)) (
                        ixA a0 a0n v46 1 fun p50 =>
                        ldI .i64 (World.drew w9) p50 fun x51 =>
                        ixA a0 a0n (IntKind.wrap .i64 (v46 - 1)) 1 fun p52 =>
                        ldI .i64 (World.drew w9) p52 fun x53 =>
                        clF Try.prog (a3) [.int .i64 x51, .int .i64 x53] (World.drew w9) fun e55 w10 => ∃ x54 : Int, e55 = Ending.returned (.int .i64 x54) ∧
                        pif (!(decide (x54 < 0))) (
                          k42 (()) w10) (
                          ixA a0 a0n (IntKind.wrap .i64 (v46 - 1)) 1 fun p56 =>
                          ldI .i64 (World.drew w10) p56 fun x57 =>
                          ixA a0 a0n v46 1 fun p58 =>
                          ldI .i64 (World.drew w10) p58 fun x59 =>
                          ixA a0 a0n v46 1 fun p60 =>
                          st (World.drew w10) (p60.add 0) (.int .i64 x57) fun w11 =>
                          ixA a0 a0n (IntKind.wrap .i64 (v46 - 1)) 1 fun p61 =>
                          st w11 (p61.add 0) (.int .i64 x59) fun w12 =>
                          k47 ((IntKind.wrap .i64 (v46 - 1)), ()) w12)) (
                        k42 (()) w9)) ((IntKind.wrap .i64 (v12 - 1)), ()) w7) (
                    k42 (()) w7)) fun s43 w8 => match s43 with
                | (_) =>
                pif (decide ((IntKind.wrap .i64 (a2 - v12)) ≥ 2)) (
                  lp (σ := Int × Unit) (fun s67 w13 k66 => match s67 with
                    | (v65, _) =>
                    pif (decide (v65 < a2)) (
                      ixA a0 a0n v65 1 fun p69 =>
                      ldI .i64 (World.drew w13) p69 fun x70 =>
                      ixA a0 a0n (IntKind.wrap .i64 (v65 - 1)) 1 fun p71 =>
                      ldI .i64 (World.drew w13) p71 fun x72 =>
                      clF Try.prog (a3) [.int .i64 x70, .int .i64 x72] (World.drew w13) fun e74 w14 => ∃ x73 : Int, e74 = Ending.returned (.int .i64 x73) ∧
                      pif (!(decide (x73 < 0))) (
                        k10 (v12, ()) w14) (
                        ixA a0 a0n (IntKind.wrap .i64 (v65 - 1)) 1 fun p75 =>
                        ldI .i64 (World.drew w14) p75 fun x76 =>
                        ixA a0 a0n v65 1 fun p77 =>
                        ldI .i64 (World.drew w14) p77 fun x78 =>
                        ixA a0 a0n v65 1 fun p79 =>
                        st (World.drew w14) (p79.add 0) (.int .i64 x76) fun w15 =>
                        ixA a0 a0n (IntKind.wrap .i64 (v65 - 1)) 1 fun p80 =>
                        st w15 (p80.add 0) (.int .i64 x78) fun w16 =>
                        k66 ((IntKind.wrap .i64 (v65 + 1)), ()) w16)) (
                      k10 (v12, ()) w13)) ((IntKind.wrap .i64 (v12 + 1)), ()) w8) (
                  k10 (v12, ()) w8))))) (v4, ()) w1) fun s11 w2 => match s11 with
      | (v9, _) =>
      k6 (v9, (IntKind.wrap .i64 (v5 + 1)), ()) w2) (
      R (.bool false) w1)) ((IntKind.wrap .i64 (a1 + 1)), 0, ()) w
def An80 : An := .seq (.leaf) (.seq (.leaf) (.seq (.seq (.leaf) (.blk (.loop [(9, .one (.int .i64)), (10, .one (.int .i64))] (.seq (.seq (.leaf) (.cond (.leaf) (.leaf))) (.seq (.join [(9, .one (.int .i64))] (.blk (.seq (.blk (.loop [(9, .one (.int .i64))] (.seq (.seq (.draw [0, 0, 3, 7, 15, 15, 15, 111, 239, 15, 15, 1039, 3599, 7695, 16383, 32767, 65535, 131071]) (.cond (.leaf) (.leaf))) (.blk (.leaf))))) (.seq (.seq (.leaf) (.cond (.seq (.leaf) (.leaf)) (.leaf))) (.seq (.seq (.leaf) (.cond (.seq (.leaf) (.leaf)) (.leaf))) (.seq (.draw [0, 0, 0, 0, 8, 0, 0, 64, 224, 480, 0, 0, 3072, 7168, 16355, 32739, 65535, 131071]) (.seq (.join [] (.seq (.leaf) (.cond (.seq (.leaf) (.blk (.loop [(11, .one (.int .i64))] (.seq (.seq (.leaf) (.cond (.leaf) (.leaf))) (.seq (.blk (.seq (.seq (.draw [0, 0, 0, 6, 14, 0, 0, 64, 224, 480, 1023, 2047, 4095]) (.cond (.leaf) (.leaf))) (.draw [0, 0, 0, 0, 8, 0, 0, 64, 224, 480, 0, 0, 3072, 7168, 16355, 32739, 65535, 131071]))) (.leaf)))))) (.leaf)))) (.seq (.leaf) (.cond (.seq (.leaf) (.blk (.loop [(12, .one (.int .i64))] (.seq (.seq (.leaf) (.cond (.leaf) (.leaf))) (.seq (.blk (.seq (.seq (.draw [0, 0, 0, 6, 14, 0, 0, 64, 224, 480, 1023, 2047, 4095]) (.cond (.leaf) (.leaf))) (.draw [0, 0, 0, 0, 8, 0, 0, 64, 224, 480, 0, 0, 3072, 7168, 16355, 32739, 65535, 131071]))) (.leaf)))))) (.leaf)))))))))) (.leaf)))))) (.seq (.leaf) (.leaf))))
theorem V80_eq (a0 : Option Addr) (a0n : Nat) (a0c : Nat) (a1 : Int) (a2 : Int) (a3 : Value) (w : World) (R : Value → World → Prop) : evF Try.prog Try.f80 An80 [.slice a0 a0n a0c, .int .i64 a1, .int .i64 a2, a3] w R = V80 a0 a0n a0c a1 a2 a3 w R := by kernel_rfl
theorem V80_calls (a0 : Option Addr) (a0n : Nat) (a0c : Nat) (a1 : Int) (a2 : Int) (a3 : Value) (w : World) (R : Value → World → Prop) (h : V80 a0 a0n a0c a1 a2 a3 w R) : Calls Try.prog 80 #[.slice a0 a0n a0c, .int .i64 a1, .int .i64 a2, a3] w fun e w' => ∃ v, e = .returned v ∧ R v w' :=
  calls_of_ev (args := [.slice a0 a0n a0c, .int .i64 a1, .int .i64 a2, a3]) Try.func80 (Nat.le_of_ble_eq_true (by kernel_rfl)) (by rw [V80_eq]; exact h)
theorem ok80 : fnOk Try.prog 80 = true := by kernel_rfl

/-! slices.partitionEqualCmpFunc[int] -/
def V81 (a0 : Option Addr) (a0n : Nat) (a0c : Nat) (a1 : Int) (a2 : Int) (a3 : Int) (a4 : Value) (w : World) (R : Value → World → Prop) : Prop :=
  ixA a0 a0n a3 1 fun p2 =>
  ldI .i64 (World.drew w) p2 fun x3 =>
  ixA a0 a0n a1 1 fun p4 =>
  ldI .i64 (World.drew w) p4 fun x5 =>
  ixA a0 a0n a1 1 fun p6 =>
  st (World.drew w) (p6.add 0) (.int .i64 x3) fun w1 =>
  ixA a0 a0n a3 1 fun p7 =>
  st w1 (p7.add 0) (.int .i64 x5) fun w2 =>
  lp (σ := Int × Int × Unit) (fun s12 w3 k11 => match s12 with
    | (v9, v10, _) =>
    lp (σ := Int × Unit) (fun s15 w4 k14 => match s15 with
      | (v13, _) =>
      gd (α := Addr) (decide (v13 ≤ v10)) (fun k16 =>
        ixA a0 a0n a1 1 fun p17 =>
        k16 p17 (World.drew w4)) ⟨0, 0, none⟩ (World.drew w4) fun x18 _ =>
      gd (α := Int) (decide (v13 ≤ v10)) (fun k19 =>
        ldI .i64 (World.drew w4) x18 fun x20 =>
        k19 x20 (World.drew w4)) 0 (World.drew w4) fun x21 _ =>
      gd (α := Addr) (decide (v13 ≤ v10)) (fun k22 =>
        ixA a0 a0n v13 1 fun p23 =>
        k22 p23 (World.drew w4)) ⟨0, 0, none⟩ (World.drew w4) fun x24 _ =>
      gd (α := Int) (decide (v13 ≤ v10)) (fun k25 =>
        ldI .i64 (World.drew w4) x24 fun x26 =>
        k25 x26 (World.drew w4)) 0 (World.drew w4) fun x27 _ =>
      gd (α := Int) (decide (v13 ≤ v10)) (fun k28 =>
        clF Try.prog (a4) [.int .i64 x21, .int .i64 x27] (World.drew w4) fun e30 w5 => ∃ x29 : Int, e30 = Ending.returned (.int .i64 x29) ∧
        k28 x29 w5) 0 (World.drew w4) fun x31 w6 =>
      pif (cond (decide (v13 ≤ v10)) (!(decide (x31 < 0))) false) (
        k14 ((IntKind.wrap .i64 (v13 + 1)), ()) w6) (
        lp (σ := Int × Unit) (fun s35 w7 k34 => match s35 with
          | (v33, _) =>
          gd (α := Addr) (decide (v13 ≤ v33)) (fun k36 =>
            ixA a0 a0n a1 1 fun p37 =>
            k36 p37 (World.drew w7)) ⟨0, 0, none⟩ (World.drew w7) fun x38 _ =>
          gd (α := Int) (decide (v13 ≤ v33)) (fun k39 =>
            ldI .i64 (World.drew w7) x38 fun x40 =>
            k39 x40 (World.drew w7)) 0 (World.drew w7) fun x41 _ =>
          gd (α := Addr) (decide (v13 ≤ v33)) (fun k42 =>
            ixA a0 a0n v33 1 fun p43 =>
            k42 p43 (World.drew w7)) ⟨0, 0, none⟩ (World.drew w7) fun x44 _ =>
          gd (α := Int) (decide (v13 ≤ v33)) (fun k45 =>
            ldI .i64 (World.drew w7) x44 fun x46 =>
            k45 x46 (World.drew w7)) 0 (World.drew w7) fun x47 _ =>
          gd (α := Int) (decide (v13 ≤ v33)) (fun k48 =>
            clF Try.prog (a4) [.int .i64 x41, .int .i64 x47] (World.drew w7) fun e50 w8 => ∃ x49 : Int, e50 = Ending.returned (.int .i64 x49) ∧
            k48 x49 w8) 0 (World.drew w7) fun x51 w9 =>
          pif (cond (decide (v13 ≤ v33)) (decide (x51 < 0)) false) (
            k34 ((IntKind.wrap .i64 (v33 - 1)), ()) w9) (
            pif (decide (v13 > v33)) (
              R (.int .i64 v13) w9) (
              ixA a0 a0n v33 1 fun p55 =>
              ldI .i64 (World.drew w9) p55 fun x56 =>
              ixA a0 a0n v13 1 fun p57 =>
              ldI .i64 (World.drew w9) p57 fun x58 =>
              ixA a0 a0n v13 1 fun p59 =>
              st (World.drew w9) (p59.add 0) (.int .i64 x56) fun w10 =>
              ixA a0 a0n v33 1 fun p60 =>
              st w10 (p60.add 0) (.int .i64 x58) fun w11 =>
              k11 ((IntKind.wrap .i64 (v13 + 1)), (IntKind.wrap .i64 (v33 - 1)), ()) w11))) (v10, ()) w6)) (v9, ()) w3) ((IntKind.wrap .i64 (a1 + 1)), (IntKind.wrap .i64 (a2 - 1)), ()) w2
def An81 : An := .seq (.leaf) (.seq (.draw [0, 0, 0, 0, 0, 0, 48, 112, 0, 0, 768, 1792, 4083, 8179, 16383, 32767]) (.seq (.leaf) (.seq (.blk (.loop [(11, .one (.int .i64)), (12, .one (.int .i64))] (.blk (.seq (.blk (.loop [(11, .one (.int .i64))] (.seq (.seq (.draw [0, 0, 3, 7, 15, 15, 15, 111, 239, 15, 15, 1551, 3599, 8191, 16383, 32767, 65535]) (.cond (.leaf) (.leaf))) (.blk (.leaf))))) (.seq (.blk (.loop [(12, .one (.int .i64))] (.seq (.seq (.draw [0, 0, 3, 7, 15, 15, 15, 111, 239, 15, 15, 1551, 3599, 8191, 16383, 32767]) (.cond (.leaf) (.leaf))) (.blk (.leaf))))) (.seq (.seq (.leaf) (.cond (.leaf) (.leaf))) (.seq (.draw [0, 0, 0, 0, 0, 0, 48, 112, 0, 0, 768, 1792, 4083, 8179, 16383, 32767]) (.seq (.leaf) (.leaf))))))))) (.seq (.leaf) (.leaf)))))
theorem V81_eq (a0 : Option Addr) (a0n : Nat) (a0c : Nat) (a1 : Int) (a2 : Int) (a3 : Int) (a4 : Value) (w : World) (R : Value → World → Prop) : evF Try.prog Try.f81 An81 [.slice a0 a0n a0c, .int .i64 a1, .int .i64 a2, .int .i64 a3, a4] w R = V81 a0 a0n a0c a1 a2 a3 a4 w R := by kernel_rfl
theorem V81_calls (a0 : Option Addr) (a0n : Nat) (a0c : Nat) (a1 : Int) (a2 : Int) (a3 : Int) (a4 : Value) (w : World) (R : Value → World → Prop) (h : V81 a0 a0n a0c a1 a2 a3 a4 w R) : Calls Try.prog 81 #[.slice a0 a0n a0c, .int .i64 a1, .int .i64 a2, .int .i64 a3, a4] w fun e w' => ∃ v, e = .returned v ∧ R v w' :=
  calls_of_ev (args := [.slice a0 a0n a0c, .int .i64 a1, .int .i64 a2, .int .i64 a3, a4]) Try.func81 (Nat.le_of_ble_eq_true (by kernel_rfl)) (by rw [V81_eq]; exact h)
theorem ok81 : fnOk Try.prog 81 = true := by kernel_rfl

/-! slices.partitionCmpFunc[int] -/
def V82 (a0 : Option Addr) (a0n : Nat) (a0c : Nat) (a1 : Int) (a2 : Int) (a3 : Int) (a4 : Value) (w : World) (R : Value → World → Prop) : Prop :=
  ixA a0 a0n a3 1 fun p2 =>
  ldI .i64 (World.drew w) p2 fun x3 =>
  ixA a0 a0n a1 1 fun p4 =>
  ldI .i64 (World.drew w) p4 fun x5 =>
  ixA a0 a0n a1 1 fun p6 =>
  st (World.drew w) (p6.add 0) (.int .i64 x3) fun w1 =>
  ixA a0 a0n a3 1 fun p7 =>
  st w1 (p7.add 0) (.int .i64 x5) fun w2 =>
  lp (σ := Int × Unit) (fun s11 w3 k10 => match s11 with
    | (v9, _) =>
    gd (α := Addr) (decide (v9 ≤ (IntKind.wrap .i64 (a2 - 1)))) (fun k12 =>
      ixA a0 a0n v9 1 fun p13 =>
      k12 p13 (World.drew w3)) ⟨0, 0, none⟩ (World.drew w3) fun x14 _ =>
    gd (α := Int) (decide (v9 ≤ (IntKind.wrap .i64 (a2 - 1)))) (fun k15 =>
      ldI .i64 (World.drew w3) x14 fun x16 =>
      k15 x16 (World.drew w3)) 0 (World.drew w3) fun x17 _ =>
    gd (α := Addr) (decide (v9 ≤ (IntKind.wrap .i64 (a2 - 1)))) (fun k18 =>
      ixA a0 a0n a1 1 fun p19 =>
      k18 p19 (World.drew w3)) ⟨0, 0, none⟩ (World.drew w3) fun x20 _ =>
    gd (α := Int) (decide (v9 ≤ (IntKind.wrap .i64 (a2 - 1)))) (fun k21 =>
      ldI .i64 (World.drew w3) x20 fun x22 =>
      k21 x22 (World.drew w3)) 0 (World.drew w3) fun x23 _ =>
    gd (α := Int) (decide (v9 ≤ (IntKind.wrap .i64 (a2 - 1)))) (fun k24 =>
      clF Try.prog (a4) [.int .i64 x17, .int .i64 x23] (World.drew w3) fun e26 w4 => ∃ x25 : Int, e26 = Ending.returned (.int .i64 x25) ∧
      k24 x25 w4) 0 (World.drew w3) fun x27 w5 =>
    pif (cond (decide (v9 ≤ (IntKind.wrap .i64 (a2 - 1)))) (decide (x27 < 0)) false) (
      k10 ((IntKind.wrap .i64 (v9 + 1)), ()) w5) (
      lp (σ := Int × Unit) (fun s31 w6 k30 => match s31 with
        | (v29, _) =>
        gd (α := Addr) (decide (v9 ≤ v29)) (fun k32 =>
          ixA a0 a0n v29 1 fun p33 =>
          k32 p33 (World.drew w6)) ⟨0, 0, none⟩ (World.drew w6) fun x34 _ =>
        gd (α := Int) (decide (v9 ≤ v29)) (fun k35 =>
          ldI .i64 (World.drew w6) x34 fun x36 =>
          k35 x36 (World.drew w6)) 0 (World.drew w6) fun x37 _ =>
        gd (α := Addr) (decide (v9 ≤ v29)) (fun k38 =>
          ixA a0 a0n a1 1 fun p39 =>
          k38 p39 (World.drew w6)) ⟨0, 0, none⟩ (World.drew w6) fun x40 _ =>
        gd (α := Int) (decide (v9 ≤ v29)) (fun k41 =>
          ldI .i64 (World.drew w6) x40 fun x42 =>
          k41 x42 (World.drew w6)) 0 (World.drew w6) fun x43 _ =>
        gd (α := Int) (decide (v9 ≤ v29)) (fun k44 =>
          clF Try.prog (a4) [.int .i64 x37, .int .i64 x43] (World.drew w6) fun e46 w7 => ∃ x45 : Int, e46 = Ending.returned (.int .i64 x45) ∧
          k44 x45 w7) 0 (World.drew w6) fun x47 w8 =>
        pif (cond (decide (v9 ≤ v29)) (!(decide (x47 < 0))) false) (
          k30 ((IntKind.wrap .i64 (v29 - 1)), ()) w8) (
          pif (decide (v9 > v29)) (
            ixA a0 a0n a1 1 fun p50 =>
            ldI .i64 (World.drew w8) p50 fun x51 =>
            ixA a0 a0n v29 1 fun p52 =>
            ldI .i64 (World.drew w8) p52 fun x53 =>
            ixA a0 a0n v29 1 fun p54 =>
            st (World.drew w8) (p54.add 0) (.int .i64 x51) fun w9 =>
            ixA a0 a0n a1 1 fun p55 =>
            st w9 (p55.add 0) (.int .i64 x53) fun w10 =>
            R (.tuple #[.int .i64 v29, .bool true]) w10) (
            ixA a0 a0n v29 1 fun p57 =>
            ldI .i64 (World.drew w8) p57 fun x58 =>
            ixA a0 a0n v9 1 fun p59 =>
            ldI .i64 (World.drew w8) p59 fun x60 =>
            ixA a0 a0n v9 1 fun p61 =>
            st (World.drew w8) (p61.add 0) (.int .i64 x58) fun w11 =>
            ixA a0 a0n v29 1 fun p62 =>
            st w11 (p62.add 0) (.int .i64 x60) fun w12 =>
            lp (σ := Int × Int × Unit) (fun s68 w13 k67 => match s68 with
              | (v65, v66, _) =>
              lp (σ := Int × Unit) (fun s71 w14 k70 => match s71 with
                | (v69, _) =>
                gd (α := Addr) (decide (v69 ≤ v66)) (fun k72 =>
                  ixA a0 a0n v69 1 fun p73 =>
                  k72 p73 (World.drew w14)) ⟨0, 0, none⟩ (World.drew w14) fun x74 _ =>
                gd (α := Int) (decide (v69 ≤ v66)) (fun k75 =>
                  ldI .i64 (World.drew w14) x74 fun x76 =>
                  k75 x76 (World.drew w14)) 0 (World.drew w14) fun x77 _ =>
                gd (α := Addr) (decide (v69 ≤ v66)) (fun k78 =>
                  ixA a0 a0n a1 1 fun p79 =>
                  k78 p79 (World.drew w14)) ⟨0, 0, none⟩ (World.drew w14) fun x80 _ =>
                gd (α := Int) (decide (v69 ≤ v66)) (fun k81 =>
                  ldI .i64 (World.drew w14) x80 fun x82 =>
                  k81 x82 (World.drew w14)) 0 (World.drew w14) fun x83 _ =>
                gd (α := Int) (decide (v69 ≤ v66)) (fun k84 =>
                  clF Try.prog (a4) [.int .i64 x77, .int .i64 x83] (World.drew w14) fun e86 w15 => ∃ x85 : Int, e86 = Ending.returned (.int .i64 x85) ∧
                  k84 x85 w15) 0 (World.drew w14) fun x87 w16 =>
                pif (cond (decide (v69 ≤ v66)) (decide (x87 < 0)) false) (
                  k70 ((IntKind.wrap .i64 (v69 + 1)), ()) w16) (
                  lp (σ := Int × Unit) (fun s91 w17 k90 => match s91 with
                    | (v89, _) =>
                    gd (α := Addr) (decide (v69 ≤ v89)) (fun k92 =>
                      ixA a0 a0n v89 1 fun p93 =>
                      k92 p93 (World.drew w17)) ⟨0, 0, none⟩ (World.drew w17) fun x94 _ =>
                    gd (α := Int) (decide (v69 ≤ v89)) (fun k95 =>
                      ldI .i64 (World.drew w17) x94 fun x96 =>
                      k95 x96 (World.drew w17)) 0 (World.drew w17) fun x97 _ =>
                    gd (α := Addr) (decide (v69 ≤ v89)) (fun k98 =>
                      ixA a0 a0n a1 1 fun p99 =>
                      k98 p99 (World.drew w17)) ⟨0, 0, none⟩ (World.drew w17) fun x100 _ =>
                    gd (α := Int) (decide (v69 ≤ v89)) (fun k101 =>
                      ldI .i64 (World.drew w17) x100 fun x102 =>
                      k101 x102 (World.drew w17)) 0 (World.drew w17) fun x103 _ =>
                    gd (α := Int) (decide (v69 ≤ v89)) (fun k104 =>
                      clF Try.prog (a4) [.int .i64 x97, .int .i64 x103] (World.drew w17) fun e106 w18 => ∃ x105 : Int, e106 = Ending.returned (.int .i64 x105) ∧
                      k104 x105 w18) 0 (World.drew w17) fun x107 w19 =>
                    pif (cond (decide (v69 ≤ v89)) (!(decide (x107 < 0))) false) (
                      k90 ((IntKind.wrap .i64 (v89 - 1)), ()) w19) (
                      pif (decide (v69 > v89)) (
                        ixA a0 a0n a1 1 fun p110 =>
                        ldI .i64 (World.drew w19) p110 fun x111 =>
                        ixA a0 a0n v89 1 fun p112 =>
                        ldI .i64 (World.drew w19) p112 fun x113 =>
                        ixA a0 a0n v89 1 fun p114 =>
                        st (World.drew w19) (p114.add 0) (.int .i64 x111) fun w20 =>
                        ixA a0 a0n a1 1 fun p115 =>
                        st w20 (p115.add 0) (.int .i64 x113) fun w21 =>
                        R (.tuple #[.int .i64 v89, .bool false]) w21) (
                        ixA a0 a0n v89 1 fun p117 =>
                        ldI .i64 (World.drew w19) p117 fun x118 =>
                        ixA a0 a0n v69 1 fun p119 =>
                        ldI .i64 (World.drew w19) p119 fun x120 =>
                        ixA a0 a0n v69 1 fun p121 =>
                        st (World.drew w19) (p121.add 0) (.int .i64 x118) fun w22 =>
                        ixA a0 a0n v89 1 fun p122 =>
                        st w22 (p122.add 0) (.int .i64 x120) fun w23 =>
                        k67 ((IntKind.wrap .i64 (v69 + 1)), (IntKind.wrap .i64 (v89 - 1)), ()) w23))) (v66, ()) w16)) (v65, ()) w13) ((IntKind.wrap .i64 (v9 + 1)), (IntKind.wrap .i64 (v29 - 1)), ()) w12))) ((IntKind.wrap .i64 (a2 - 1)), ()) w5)) ((IntKind.wrap .i64 (a1 + 1)), ()) w2
def An82 : An := .seq (.leaf) (.seq (.draw [0, 0, 0, 0, 0, 0, 48, 112, 0, 0, 768, 1792, 4083, 8179, 16383, 32767]) (.seq (.leaf) (.seq (.blk (.loop [(12, .one (.int .i64))] (.seq (.seq (.draw [0, 0, 3, 7, 15, 15, 15, 111, 239, 15, 15, 1551, 3599, 8191, 16383, 32767]) (.cond (.leaf) (.leaf))) (.blk (.leaf))))) (.seq (.blk (.loop [(13, .one (.int .i64))] (.seq (.seq (.draw [0, 0, 3, 7, 15, 15, 15, 111, 239, 15, 15, 1551, 3599, 8191, 16383, 32767, 65535]) (.cond (.leaf) (.leaf))) (.blk (.leaf))))) (.seq (.seq (.leaf) (.cond (.seq (.draw [0, 0, 0, 0, 0, 0, 48, 112, 0, 0, 768, 1792, 4083, 8179, 16383, 32767]) (.seq (.leaf) (.leaf))) (.leaf))) (.seq (.draw [0, 0, 0, 0, 0, 0, 48, 112, 0, 0, 768, 1792, 4083, 8179, 16383, 32767]) (.seq (.leaf) (.seq (.leaf) (.seq (.blk (.loop [(12, .one (.int .i64)), (13, .one (.int .i64))] (.blk (.seq (.blk (.loop [(12, .one (.int .i64))] (.seq (.seq (.draw [0, 0, 3, 7, 15, 15, 15, 111, 239, 15, 15, 1551, 3599, 8191, 16383, 32767]) (.cond (.leaf) (.leaf))) (.blk (.leaf))))) (.seq (.blk (.loop [(13, .one (.int .i64))] (.seq (.seq (.draw [0, 0, 3, 7, 15, 15, 15, 111, 239, 15, 15, 1551, 3599, 8191, 16383, 32767, 65535]) (.cond (.leaf) (.leaf))) (.blk (.leaf))))) (.seq (.seq (.leaf) (.cond (.leaf) (.leaf))) (.seq (.draw [0, 0, 0, 0, 0, 0, 48, 112, 0, 0, 768, 1792, 4083, 8179, 16383, 32767]) (.seq (.leaf) (.leaf))))))))) (.seq (.draw [0, 0, 0, 0, 0, 0, 48, 112, 0, 0, 768, 1792, 4083, 8179, 16383, 32767]) (.seq (.leaf) (.leaf))))))))))))
theorem V82_eq (a0 : Option Addr) (a0n : Nat) (a0c : Nat) (a1 : Int) (a2 : Int) (a3 : Int) (a4 : Value) (w : World) (R : Value → World → Prop) : evF Try.prog Try.f82 An82 [.slice a0 a0n a0c, .int .i64 a1, .int .i64 a2, .int .i64 a3, a4] w R = V82 a0 a0n a0c a1 a2 a3 a4 w R := by kernel_rfl
theorem V82_calls (a0 : Option Addr) (a0n : Nat) (a0c : Nat) (a1 : Int) (a2 : Int) (a3 : Int) (a4 : Value) (w : World) (R : Value → World → Prop) (h : V82 a0 a0n a0c a1 a2 a3 a4 w R) : Calls Try.prog 82 #[.slice a0 a0n a0c, .int .i64 a1, .int .i64 a2, .int .i64 a3, a4] w fun e w' => ∃ v, e = .returned v ∧ R v w' :=
  calls_of_ev (args := [.slice a0 a0n a0c, .int .i64 a1, .int .i64 a2, .int .i64 a3, a4]) Try.func82 (Nat.le_of_ble_eq_true (by kernel_rfl)) (by rw [V82_eq]; exact h)
theorem ok82 : fnOk Try.prog 82 = true := by kernel_rfl

/-! math/bits.Len64 -/
def V84 (a0 : Int) (w : World) (R : Value → World → Prop) : Prop :=
  jn (σ := Int × Int × Unit) (fun k4 =>
    pif (decide (a0 ≥ 4294967296)) (
      k4 ((Int.fdiv a0 (2 ^ (min (Int.toNat 32) (IntKind.bits .u64)))), 32, ()) w) (
      k4 (a0, 0, ()) w)) fun s5 w1 => match s5 with
  | (v2, v3, _) =>
  jn (σ := Int × Int × Unit) (fun k11 =>
    pif (decide (v2 ≥ 65536)) (
      k11 ((Int.fdiv v2 (2 ^ (min (Int.toNat 16) (IntKind.bits .u64)))), (IntKind.wrap .i64 (v3 + 16)), ()) w1) (
      k11 (v2, v3, ()) w1)) fun s12 w2 => match s12 with
  | (v9, v10, _) =>
  jn (σ := Int × Int × Unit) (fun k18 =>
    pif (decide (v9 ≥ 256)) (
      k18 ((Int.fdiv v9 (2 ^ (min (Int.toNat 8) (IntKind.bits .u64)))), (IntKind.wrap .i64 (v10 + 8)), ()) w2) (
      k18 (v9, v10, ()) w2)) fun s19 w3 => match s19 with
  | (v16, v17, _) =>
  (0 : Int) ≤ (IntKind.wrap .u8 v16) ∧ (IntKind.wrap .u8 v16) < ((⟨#[0, 1, 2, 2, 3, 3, 3, 3, 4, 4, 4, 4, 4, 4, 4, 4, 5, 5, 5, 5, 5, 5, 5, 5, 5, 5, 5, 5, 5, 5, 5, 5, 6, 6, 6, 6, 6, 6, 6, 6, 6, 6, 6, 6, 6, 6, 6, 6, 6, 6, 6, 6, 6, 6, 6, 6, 6, 6, 6, 6, 6, 6, 6, 6, 7, 7, 7, 7, 7, 7, 7, 7, 7, 7, 7, 7, 7, 7, 7, 7, 7, 7, 7, 7, 7, 7, 7, 7, 7, 7, 7, 7, 7, 7, 7, 7, 7, 7, 7, 7, 7, 7, 7, 7, 7, 7, 7, 7, 7, 7, 7, 7, 7, 7, 7, 7, 7, 7, 7, 7, 7, 7, 7, 7, 7, 7, 7, 7, 8, 8, 8, 8, 8, 8, 8, 8, 8, 8, 8, 8, 8, 8, 8, 8, 8, 8, 8, 8, 8, 8, 8, 8, 8, 8, 8, 8, 8, 8, 8, 8, 8, 8, 8, 8, 8, 8, 8, 8, 8, 8, 8, 8, 8, 8, 8, 8, 8, 8, 8, 8, 8, 8, 8, 8, 8, 8, 8, 8, 8, 8, 8, 8, 8, 8, 8, 8, 8, 8, 8, 8, 8, 8, 8, 8, 8, 8, 8, 8, 8, 8, 8, 8, 8, 8, 8, 8, 8, 8, 8, 8, 8, 8, 8, 8, 8, 8, 8, 8, 8, 8, 8, 8, 8, 8, 8, 8, 8, 8, 8, 8, 8, 8, 8, 8, 8, 8, 8, 8, 8, 8, 8, 8, 8, 8, 8, 8]⟩ : ByteArray).size : Int) ∧
  R (.int .i64 (IntKind.wrap .i64 (v17 + (IntKind.wrap .i64 (byteAt (⟨#[0, 1, 2, 2, 3, 3, 3, 3, 4, 4, 4, 4, 4, 4, 4, 4, 5, 5, 5, 5, 5, 5, 5, 5, 5, 5, 5, 5, 5, 5, 5, 5, 6, 6, 6, 6, 6, 6, 6, 6, 6, 6, 6, 6, 6, 6, 6, 6, 6, 6, 6, 6, 6, 6, 6, 6, 6, 6, 6, 6, 6, 6, 6, 6, 7, 7, 7, 7, 7, 7, 7, 7, 7, 7, 7, 7, 7, 7, 7, 7, 7, 7, 7, 7, 7, 7, 7, 7, 7, 7, 7, 7, 7, 7, 7, 7, 7, 7, 7, 7, 7, 7, 7, 7, 7, 7, 7, 7, 7, 7, 7, 7, 7, 7, 7, 7, 7, 7, 7, 7, 7, 7, 7, 7, 7, 7, 7, 7, 8, 8, 8, 8, 8, 8, 8, 8, 8, 8, 8, 8, 8, 8, 8, 8, 8, 8, 8, 8, 8, 8, 8, 8, 8, 8, 8, 8, 8, 8, 8, 8, 8, 8, 8, 8, 8, 8, 8, 8, 8, 8, 8, 8, 8, 8, 8, 8, 8, 8, 8, 8, 8, 8, 8, 8, 8, 8, 8, 8, 8, 8, 8, 8, 8, 8, 8, 8, 8, 8, 8, 8, 8, 8, 8, 8, 8, 8, 8, 8, 8, 8, 8, 8, 8, 8, 8, 8, 8, 8, 8, 8, 8, 8, 8, 8, 8, 8, 8, 8, 8, 8, 8, 8, 8, 8, 8, 8, 8, 8, 8, 8, 8, 8, 8, 8, 8, 8, 8, 8, 8, 8, 8, 8, 8, 8, 8, 8]⟩ : ByteArray) (IntKind.wrap .u8 v16)))))) w3
def An84 : An := .seq (.leaf) (.seq (.join [(0, .one (.int .u64)), (2, .one (.int .i64))] (.seq (.leaf) (.cond (.seq (.leaf) (.leaf)) (.leaf)))) (.seq (.join [(0, .one (.int .u64)), (2, .one (.int .i64))] (.seq (.leaf) (.cond (.seq (.leaf) (.leaf)) (.leaf)))) (.seq (.join [(0, .one (.int .u64)), (2, .one (.int .i64))] (.seq (.leaf) (.cond (.seq (.leaf) (.leaf)) (.leaf)))) (.seq (.leaf) (.leaf)))))
theorem V84_eq (a0 : Int) (w : World) (R : Value → World → Prop) : evF Try.prog Try.f84 An84 [.int .u64 a0] w R = V84 a0 w R := by kernel_rfl
theorem V84_calls (a0 : Int) (w : World) (R : Value → World → Prop) (h : V84 a0 w R) : Calls Try.prog 84 #[.int .u64 a0] w fun e w' => ∃ v, e = .returned v ∧ R v w' :=
  calls_of_ev (args := [.int .u64 a0]) Try.func84 (Nat.le_of_ble_eq_true (by kernel_rfl)) (by rw [V84_eq]; exact h)
theorem ok84 : fnOk Try.prog 84 = true := by kernel_rfl

/-! slices.siftDownCmpFunc[int] -/
def V89 (a0 : Option Addr) (a0n : Nat) (a0c : Nat) (a1 : Int) (a2 : Int) (a3 : Int) (a4 : Value) (w : World) (R : Value → World → Prop) : Prop :=
  lp (σ := Int × Unit) (fun s4 w1 k3 => match s4 with
    | (v2, _) =>
    pif (decide ((IntKind.wrap .i64 ((IntKind.wrap .i64 (2 * v2)) + 1)) ≥ a2)) (
      R (.tuple #[]) w1) (
      jn (σ := Int × Unit) (fun k8 =>
        gd (α := Addr) (decide ((IntKind.wrap .i64 ((IntKind.wrap .i64 ((IntKind.wrap .i64 (2 * v2)) + 1)) + 1)) < a2)) (fun k10 =>
          ixA a0 a0n (IntKind.wrap .i64 (a3 + (IntKind.wrap .i64 ((IntKind.wrap .i64 (2 * v2)) + 1)))) 1 fun p11 =>
          k10 p11 (World.drew w1)) ⟨0, 0, none⟩ (World.drew w1) fun x12 _ =>
        gd (α := Int) (decide ((IntKind.wrap .i64 ((IntKind.wrap .i64 ((IntKind.wrap .i64 (2 * v2)) + 1)) + 1)) < a2)) (fun k13 =>
          ldI .i64 (World.drew w1) x12 fun x14 =>
          k13 x14 (World.drew w1)) 0 (World.drew w1) fun x15 _ =>
        gd (α := Addr) (decide ((IntKind.wrap .i64 ((IntKind.wrap .i64 ((IntKind.wrap .i64 (2 * v2)) + 1)) + 1)) < a2)) (fun k16 =>
          ixA a0 a0n (IntKind.wrap .i64 ((IntKind.wrap .i64 (a3 + (IntKind.wrap .i64 ((IntKind.wrap .i64 (2 * v2)) + 1)))) + 1)) 1 fun p17 =>
          k16 p17 (World.drew w1)) ⟨0, 0, none⟩ (World.drew w1) fun x18 _ =>
        gd (α := Int) (decide ((IntKind.wrap .i64 ((IntKind.wrap .i64 ((IntKind.wrap .i64 (2 * v2)) + 1)) + 1)) < a2)) (fun k19 =>
          ldI .i64 (World.drew w1) x18 fun x20 =>
          k19 x20 (World.drew w1)) 0 (World.drew w1) fun x21 _ =>
        gd (α := Int) (decide ((IntKind.wrap .i64 ((IntKind.wrap .i64 ((IntKind.wrap .i64 (2 * v2)) + 1)) + 1)) < a2)) (fun k22 =>
          clF Try.prog (a4) [.int .i64 x15, .int .i64 x21] (World.drew w1) fun e24 w3 => ∃ x23 : Int, e24 = Ending.returned (.int .i64 x23) ∧
          k22 x23 w3) 0 (World.drew w1) fun x25 w4 =>
        pif (cond (decide ((IntKind.wrap .i64 ((IntKind.wrap .i64 ((IntKind.wrap .i64 (2 * v2)) + 1)) + 1)) < a2)) (decide (x25 < 0)) false) (
          k8 ((IntKind.wrap .i64 ((IntKind.wrap .i64 ((IntKind.wrap .i64 (2 * v2)) + 1)) + 1)), ()) w4) (
          k8 ((IntKind.wrap .i64 ((IntKind.wrap .i64 (2 * v2)) + 1)), ()) w4)) fun s9 w2 => match s9 with
      | (v7, _) =>
      ixA a0 a0n (IntKind.wrap .i64 (a3 + v2)) 1 fun p27 =>
      ldI .i64 (World.drew w2) p27 fun x28 =>
      ixA a0 a0n (IntKind.wrap .i64 (a3 + v7)) 1 fun p29 =>
      ldI .i64 (World.drew w2) p29 fun x30 =>
      clF Try.prog (a4) [.int .i64 x28, .int .i64 x30] (World.drew w2) fun e32 w5 => ∃ x31 : Int, e32 = Ending.returned (.int .i64 x31) ∧
      pif (!(decide (x31 < 0))) (
        R (.tuple #[]) w5) (
        ixA a0 a0n (IntKind.wrap .i64 (a3 + v7)) 1 fun p33 =>
        ldI .i64 (World.drew w5) p33 fun x34 =>
        ixA a0 a0n (IntKind.wrap .i64 (a3 + v2)) 1 fun p35 =>
        ldI .i64 (World.drew w5) p35 fun x36 =>
        ixA a0 a0n (IntKind.wrap .i64 (a3 + v2)) 1 fun p37 =>
        st (World.drew w5) (p37.add 0) (.int .i64 x34) fun w6 =>
        ixA a0 a0n (IntKind.wrap .i64 (a3 + v7)) 1 fun p38 =>
        st w6 (p38.add 0) (.int .i64 x36) fun w7 =>
        k3 (v7, ()) w7))) (a1, ()) w
def An89 : An := .seq (.leaf) (.blk (.loop [(10, .one (.int .i64))] (.blk (.seq (.leaf) (.seq (.seq (.leaf) (.cond (.leaf) (.leaf))) (.seq (.join [(11, .one (.int .i64))] (.seq (.draw [0, 1, 0, 7, 15, 31, 31, 31, 31, 415, 991, 2015, 31, 31, 31, 24607, 57375, 127007, 258079, 524287, 1048575, 2097151]) (.cond (.leaf) (.leaf)))) (.seq (.seq (.draw [0, 0, 0, 0, 12, 30, 62, 0, 0, 0, 768, 1920, 3968, 8191, 16383, 32767]) (.cond (.leaf) (.leaf))) (.seq (.draw [0, 0, 0, 6, 0, 0, 0, 96, 0, 0, 0, 1536, 3840, 7936, 0, 0, 0, 98304, 245760, 507904, 1048335, 2096911, 4194303, 8388607]) (.leaf)))))))))
theorem V89_eq (a0 : Option Addr) (a0n : Nat) (a0c : Nat) (a1 : Int) (a2 : Int) (a3 : Int) (a4 : Value) (w : World) (R : Value → World → Prop) : evF Try.prog Try.f89 An89 [.slice a0 a0n a0c, .int .i64 a1, .int .i64 a2, .int .i64 a3, a4] w R = V89 a0 a0n a0c a1 a2 a3 a4 w R := by kernel_rfl
theorem V89_calls (a0 : Option Addr) (a0n : Nat) (a0c : Nat) (a1 : Int) (a2 : Int) (a3 : Int) (a4 : Value) (w : World) (R : Value → World → Prop) (h : V89 a0 a0n a0c a1 a2 a3 a4 w R) : Calls Try.prog 89 #[.slice a0 a0n a0c, .int .i64 a1, .int .i64 a2, .int .i64 a3, a4] w fun e w' => ∃ v, e = .returned v ∧ R v w' :=
  calls_of_ev (args := [.slice a0 a0n a0c, .int .i64 a1, .int .i64 a2, .int .i64 a3, a4]) Try.func89 (Nat.le_of_ble_eq_true (by kernel_rfl)) (by rw [V89_eq]; exact h)
theorem ok89 : fnOk Try.prog 89 = true := by kernel_rfl

/-! slices.nextPowerOfTwo -/
def V90 (a0 : Int) (w : World) (R : Value → World → Prop) : Prop :=
  cl Try.prog 71 [.int .u64 (IntKind.wrap .u64 a0)] w fun e4 w1 => ∃ x3 : Int, e4 = Ending.returned (.int .i64 x3) ∧
  (0 : Int) ≤ x3 ∧
  R (.int .u64 (IntKind.wrap .u64 (1 * 2 ^ (min (Int.toNat x3) (IntKind.bits .u64))))) w1
def An90 : An := .seq (.leaf) (.seq (.leaf) (.leaf))
theorem V90_eq (a0 : Int) (w : World) (R : Value → World → Prop) : evF Try.prog Try.f90 An90 [.int .i64 a0] w R = V90 a0 w R := by kernel_rfl
theorem V90_calls (a0 : Int) (w : World) (R : Value → World → Prop) (h : V90 a0 w R) : Calls Try.prog 90 #[.int .i64 a0] w fun e w' => ∃ v, e = .returned v ∧ R v w' :=
  calls_of_ev (args := [.int .i64 a0]) Try.func90 (Nat.le_of_ble_eq_true (by kernel_rfl)) (by rw [V90_eq]; exact h)
theorem ok90 : fnOk Try.prog 90 = true := by kernel_rfl

/-! (*slices.xorshift).Next -/
def V91 (a0 : Option Addr) (w : World) (R : Value → World → Prop) : Prop :=
  nn a0 fun p2 =>
  ldI .u64 (World.drew w) p2 fun x3 =>
  nn a0 fun p4 =>
  ldI .u64 (World.drew w) p4 fun x5 =>
  nn a0 fun p6 =>
  st (World.drew w) (p6.add 0) (.int .u64 (bits .xor .u64 x3 (IntKind.wrap .u64 (x5 * 2 ^ (min (Int.toNat 13) (IntKind.bits .u64)))))) fun w1 =>
  nn a0 fun p7 =>
  ldI .u64 (World.drew w1) p7 fun x8 =>
  nn a0 fun p9 =>
  ldI .u64 (World.drew w1) p9 fun x10 =>
  nn a0 fun p11 =>
  st (World.drew w1) (p11.add 0) (.int .u64 (bits .xor .u64 x8 (Int.fdiv x10 (2 ^ (min (Int.toNat 7) (IntKind.bits .u64)))))) fun w2 =>
  nn a0 fun p12 =>
  ldI .u64 (World.drew w2) p12 fun x13 =>
  nn a0 fun p14 =>
  ldI .u64 (World.drew w2) p14 fun x15 =>
  nn a0 fun p16 =>
  st (World.drew w2) (p16.add 0) (.int .u64 (bits .xor .u64 x13 (IntKind.wrap .u64 (x15 * 2 ^ (min (Int.toNat 17) (IntKind.bits .u64)))))) fun w3 =>
  nn a0 fun p18 =>
  ldI .u64 w3 p18 fun x19 =>
  R (.int .u64 x19) w3
def An91 : An := .seq (.leaf) (.seq (.draw [0, 1, 3, 0, 8, 24, 56, 127, 255, 511]) (.seq (.draw [0, 1, 3, 0, 8, 24, 56, 127, 255, 511]) (.seq (.draw [0, 1, 3, 0, 8, 24, 56, 127, 255, 511]) (.seq (.leaf) (.leaf)))))
theorem V91_eq (a0 : Option Addr) (w : World) (R : Value → World → Prop) : evF Try.prog Try.f91 An91 [.pointer a0] w R = V91 a0 w R := by kernel_rfl
theorem V91_calls (a0 : Option Addr) (w : World) (R : Value → World → Prop) (h : V91 a0 w R) : Calls Try.prog 91 #[.pointer a0] w fun e w' => ∃ v, e = .returned v ∧ R v w' :=
  calls_of_ev (args := [.pointer a0]) Try.func91 (Nat.le_of_ble_eq_true (by kernel_rfl)) (by rw [V91_eq]; exact h)
theorem ok91 : fnOk Try.prog 91 = true := by kernel_rfl

/-! slices.medianAdjacentCmpFunc[int] -/
def V92 (a0 : Option Addr) (a0n : Nat) (a0c : Nat) (a1 : Int) (a2 : Option Addr) (a3 : Value) (w : World) (R : Value → World → Prop) : Prop :=
  cl Try.prog 93 [.slice a0 a0n a0c, .int .i64 (IntKind.wrap .i64 (a1 - 1)), .int .i64 a1, .int .i64 (IntKind.wrap .i64 (a1 + 1)), .pointer a2, a3] w fun e4 w1 => ∃ x3 : Int, e4 = Ending.returned (.int .i64 x3) ∧
  R (.int .i64 x3) w1
def An92 : An := .seq (.leaf) (.seq (.leaf) (.leaf))
theorem V92_eq (a0 : Option Addr) (a0n : Nat) (a0c : Nat) (a1 : Int) (a2 : Option Addr) (a3 : Value) (w : World) (R : Value → World → Prop) : evF Try.prog Try.f92 An92 [.slice a0 a0n a0c, .int .i64 a1, .pointer a2, a3] w R = V92 a0 a0n a0c a1 a2 a3 w R := by kernel_rfl
theorem V92_calls (a0 : Option Addr) (a0n : Nat) (a0c : Nat) (a1 : Int) (a2 : Option Addr) (a3 : Value) (w : World) (R : Value → World → Prop) (h : V92 a0 a0n a0c a1 a2 a3 w R) : Calls Try.prog 92 #[.slice a0 a0n a0c, .int .i64 a1, .pointer a2, a3] w fun e w' => ∃ v, e = .returned v ∧ R v w' :=
  calls_of_ev (args := [.slice a0 a0n a0c, .int .i64 a1, .pointer a2, a3]) Try.func92 (Nat.le_of_ble_eq_true (by kernel_rfl)) (by rw [V92_eq]; exact h)
theorem ok92 : fnOk Try.prog 92 = true := by kernel_rfl

/-! slices.medianCmpFunc[int] -/
def V93 (a0 : Option Addr) (a0n : Nat) (a0c : Nat) (a1 : Int) (a2 : Int) (a3 : Int) (a4 : Option Addr) (a5 : Value) (w : World) (R : Value → World → Prop) : Prop :=
  cl Try.prog 95 [.slice a0 a0n a0c, .int .i64 a1, .int .i64 a2, .pointer a4, a5] w fun e5 w1 => ∃ x3 : Int, ∃ x4 : Int, e5 = Ending.returned (.tuple #[.int .i64 x3, .int .i64 x4]) ∧
  cl Try.prog 95 [.slice a0 a0n a0c, .int .i64 x4, .int .i64 a3, .pointer a4, a5] w1 fun e9 w2 => ∃ x7 : Int, ∃ x8 : Int, e9 = Ending.returned (.tuple #[.int .i64 x7, .int .i64 x8]) ∧
  cl Try.prog 95 [.slice a0 a0n a0c, .int .i64 x3, .int .i64 x7, .pointer a4, a5] w2 fun e13 w3 => ∃ x11 : Int, ∃ x12 : Int, e13 = Ending.returned (.tuple #[.int .i64 x11, .int .i64 x12]) ∧
  R (.int .i64 x12) w3
def An93 : An := .seq (.leaf) (.seq (.leaf) (.seq (.leaf) (.seq (.leaf) (.seq (.leaf) (.leaf)))))
theorem V93_eq (a0 : Option Addr) (a0n : Nat) (a0c : Nat) (a1 : Int) (a2 : Int) (a3 : Int) (a4 : Option Addr) (a5 : Value) (w : World) (R : Value → World → Prop) : evF Try.prog Try.f93 An93 [.slice a0 a0n a0c, .int .i64 a1, .int .i64 a2, .int .i64 a3, .pointer a4, a5] w R = V93 a0 a0n a0c a1 a2 a3 a4 a5 w R := by kernel_rfl
theorem V93_calls (a0 : Option Addr) (a0n : Nat) (a0c : Nat) (a1 : Int) (a2 : Int) (a3 : Int) (a4 : Option Addr) (a5 : Value) (w : World) (R : Value → World → Prop) (h : V93 a0 a0n a0c a1 a2 a3 a4 a5 w R) : Calls Try.prog 93 #[.slice a0 a0n a0c, .int .i64 a1, .int .i64 a2, .int .i64 a3, .pointer a4, a5] w fun e w' => ∃ v, e = .returned v ∧ R v w' :=
  calls_of_ev (args := [.slice a0 a0n a0c, .int .i64 a1, .int .i64 a2, .int .i64 a3, .pointer a4, a5]) Try.func93 (Nat.le_of_ble_eq_true (by kernel_rfl)) (by rw [V93_eq]; exact h)
theorem ok93 : fnOk Try.prog 93 = true := by kernel_rfl

/-! slices.order2CmpFunc[int] -/
def V95 (a0 : Option Addr) (a0n : Nat) (a0c : Nat) (a1 : Int) (a2 : Int) (a3 : Option Addr) (a4 : Value) (w : World) (R : Value → World → Prop) : Prop :=
  ixA a0 a0n a2 1 fun p2 =>
  ldI .i64 (World.drew w) p2 fun x3 =>
  ixA a0 a0n a1 1 fun p4 =>
  ldI .i64 (World.drew w) p4 fun x5 =>
  clF Try.prog (a4) [.int .i64 x3, .int .i64 x5] (World.drew w) fun e7 w1 => ∃ x6 : Int, e7 = Ending.returned (.int .i64 x6) ∧
  pif (decide (x6 < 0)) (
    nn a3 fun p9 =>
    ldI .i64 w1 p9 fun x10 =>
    nn a3 fun p11 =>
    st w1 (p11.add 0) (.int .i64 (IntKind.wrap .i64 (x10 + 1))) fun w2 =>
    R (.tuple #[.int .i64 a2, .int .i64 a1]) w2) (
    R (.tuple #[.int .i64 a1, .int .i64 a2]) w1)
def An95 : An := .seq (.leaf) (.seq (.seq (.draw [0, 0, 0, 6, 14, 0, 0, 96, 224, 511, 1023]) (.cond (.seq (.leaf) (.seq (.leaf) (.leaf))) (.leaf))) (.seq (.leaf) (.leaf)))
theorem V95_eq (a0 : Option Addr) (a0n : Nat) (a0c : Nat) (a1 : Int) (a2 : Int) (a3 : Option Addr) (a4 : Value) (w : World) (R : Value → World → Prop) : evF Try.prog Try.f95 An95 [.slice a0 a0n a0c, .int .i64 a1, .int .i64 a2, .pointer a3, a4] w R = V95 a0 a0n a0c a1 a2 a3 a4 w R := by kernel_rfl
theorem V95_calls (a0 : Option Addr) (a0n : Nat) (a0c : Nat) (a1 : Int) (a2 : Int) (a3 : Option Addr) (a4 : Value) (w : World) (R : Value → World → Prop) (h : V95 a0 a0n a0c a1 a2 a3 a4 w R) : Calls Try.prog 95 #[.slice a0 a0n a0c, .int .i64 a1, .int .i64 a2, .pointer a3, a4] w fun e w' => ∃ v, e = .returned v ∧ R v w' :=
  calls_of_ev (args := [.slice a0 a0n a0c, .int .i64 a1, .int .i64 a2, .pointer a3, a4]) Try.func95 (Nat.le_of_ble_eq_true (by kernel_rfl)) (by rw [V95_eq]; exact h)
theorem ok95 : fnOk Try.prog 95 = true := by kernel_rfl

end Go.Proofs.Ytjpblaenebodlaa.T
