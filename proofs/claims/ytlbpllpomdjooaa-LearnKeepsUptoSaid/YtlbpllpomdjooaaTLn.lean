/- The conditions under which the functions printed here return, as propositions over typed values; each is the machine's own, by the generator's theorem. -/
import Derived.Test.YtlbpllpomdjooaaProg
import Derived.Test.YtlbpllpomdjooaaVcG
set_option linter.unusedVariables false
set_option maxRecDepth 100000
namespace Go.Proofs.Ytlbpllpomdjooaa.T
open Go Go.Proofs.Ytlbpllpomdjooaa.Vc
/-! depot/depotlaw15.LearnNumbers -/
def V6  (w : World) (R : Value → World → Prop) : Prop :=
  gd (α := Bool) true (fun k3 =>
    cl Try.prog 19 [] w fun e5 w1 => ∃ x4 : Bool, e5 = Ending.returned (.bool x4) ∧
    k3 x4 w1) false w fun x6 w2 =>
  R (.bool (cond true x6 false)) w2
def An6 : An := .seq (.leaf) (.seq (.leaf) (.leaf))
theorem V6_eq  (w : World) (R : Value → World → Prop) : evF Try.prog Try.f6 An6 [] w R = V6  w R := by kernel_rfl
theorem V6_calls  (w : World) (R : Value → World → Prop) (h : V6  w R) : Calls Try.prog 6 #[] w fun e w' => ∃ v, e = .returned v ∧ R v w' :=
  calls_of_ev (args := []) Try.func6 (Nat.le_of_ble_eq_true (by kernel_rfl)) (by rw [V6_eq]; exact h)
theorem ok6 : fnOk Try.prog 6 = true := by kernel_rfl

/-! depot/depotlaw15.LearnLearns -/
def V7 (a0 : Option Addr) (a0n : Nat) (a0c : Nat) (a1 : Option Addr) (a1n : Nat) (a1c : Nat) (w : World) (R : Value → World → Prop) : Prop :=
  cl Try.prog 11 [.slice a0 a0n a0c] w fun e4 w1 => ∃ (x3 : Option Addr) (x3n x3c : Nat), e4 = Ending.returned (.slice x3 x3n x3c) ∧
  cl Try.prog 14 [.slice a1 a1n a1c] w1 fun e6 w2 => ∃ (x5 : Option Addr) (x5n x5c : Nat), e6 = Ending.returned (.slice x5 x5n x5c) ∧
  cl Try.prog 20 [.slice x3 x3n x3c, .slice x5 x5n x5c] w2 fun e10 w3 => ∃ (x7 : Option Addr) (x7n x7c : Nat), ∃ x8 : Int, ∃ x9 : Int, e10 = Ending.returned (.tuple #[.slice x7 x7n x7c, .int .i64 x8, .int .i64 x9]) ∧
  cl Try.prog 21 [.slice a0 a0n a0c, .slice a1 a1n a1c] w3 fun e15 w4 => ∃ (x12 : Option Addr) (x12n x12c : Nat), ∃ x13 : Int, ∃ x14 : Int, e15 = Ending.returned (.tuple #[.slice x12 x12n x12c, .int .i64 x13, .int .i64 x14]) ∧
  gd (α := Bool) (cond (x9 == x14) (x8 == x13) false) (fun k17 =>
    cl Try.prog 18 [.slice x7 x7n x7c, .slice x12 x12n x12c] w4 fun e19 w5 => ∃ x18 : Bool, e19 = Ending.returned (.bool x18) ∧
    k17 x18 w5) false w4 fun x20 w6 =>
  R (.bool (cond (cond (x9 == x14) (x8 == x13) false) x20 false)) w6
def An7 : An := .seq (.leaf) (.seq (.leaf) (.seq (.leaf) (.seq (.leaf) (.leaf))))
theorem V7_eq (a0 : Option Addr) (a0n : Nat) (a0c : Nat) (a1 : Option Addr) (a1n : Nat) (a1c : Nat) (w : World) (R : Value → World → Prop) : evF Try.prog Try.f7 An7 [.slice a0 a0n a0c, .slice a1 a1n a1c] w R = V7 a0 a0n a0c a1 a1n a1c w R := by kernel_rfl
theorem V7_calls (a0 : Option Addr) (a0n : Nat) (a0c : Nat) (a1 : Option Addr) (a1n : Nat) (a1c : Nat) (w : World) (R : Value → World → Prop) (h : V7 a0 a0n a0c a1 a1n a1c w R) : Calls Try.prog 7 #[.slice a0 a0n a0c, .slice a1 a1n a1c] w fun e w' => ∃ v, e = .returned v ∧ R v w' :=
  calls_of_ev (args := [.slice a0 a0n a0c, .slice a1 a1n a1c]) Try.func7 (Nat.le_of_ble_eq_true (by kernel_rfl)) (by rw [V7_eq]; exact h)
theorem ok7 : fnOk Try.prog 7 = true := by kernel_rfl

/-! depot/depotlaw15.LearnAsserts -/
def V8 (a0 : Option Addr) (a0n : Nat) (a0c : Nat) (a1 : Option Addr) (a1n : Nat) (a1c : Nat) (w : World) (R : Value → World → Prop) : Prop :=
  cl Try.prog 19 [] w fun e4 w1 => ∃ x3 : Bool, e4 = Ending.returned (.bool x3) ∧
  pif (!x3) (
    R (.bool false) w1) (
    cl Try.prog 12 [.slice a0 a0n a0c] w1 fun e8 w2 => ∃ x7 : Bool, e8 = Ending.returned (.bool x7) ∧
    gd (α := Bool) (!(!x7)) (fun k9 =>
      cl Try.prog 22 [.slice a1 a1n a1c] w2 fun e11 w3 => ∃ x10 : Bool, e11 = Ending.returned (.bool x10) ∧
      k9 x10 w3) false w2 fun x12 w4 =>
    gd (α := Bool) (!(cond (!x7) true (!x12))) (fun k13 =>
      cl Try.prog 23 [.slice a0 a0n a0c, .slice a1 a1n a1c] w4 fun e15 w5 => ∃ x14 : Bool, e15 = Ending.returned (.bool x14) ∧
      k13 x14 w5) false w4 fun x16 w6 =>
    pif (cond (cond (!x7) true (!x12)) true (!x16)) (
      R (.bool true) w6) (
      lp (σ := Int × Int × Unit) (fun s23 w7 k22 => match s23 with
        | (v20, v21, _) =>
        pif (decide (v21 < (a1n : Int))) (
          jn (σ := Int × Unit) (fun k26 =>
            ixA a1 a1n v21 1 fun p29 =>
            ldI .i64 w7 p29 fun x30 =>
            cl Try.prog 24 [.slice a0 a0n a0c, .int .i64 x30] w7 fun e33 w9 => ∃ x31 : Int, ∃ x32 : Int, e33 = Ending.returned (.tuple #[.int .i64 x31, .int .i64 x32]) ∧
            pif (decide (x31 > v20)) (
              k26 (x31, ()) w9) (
              k26 (v20, ()) w9)) fun s27 w8 => match s27 with
          | (v25, _) =>
          k22 (v25, (IntKind.wrap .i64 (v21 + 1)), ()) w8) (
          cl Try.prog 11 [.slice a0 a0n a0c] w7 fun e39 w10 => ∃ (x38 : Option Addr) (x38n x38c : Nat), e39 = Ending.returned (.slice x38 x38n x38c) ∧
          cl Try.prog 14 [.slice a1 a1n a1c] w10 fun e41 w11 => ∃ (x40 : Option Addr) (x40n x40c : Nat), e41 = Ending.returned (.slice x40 x40n x40c) ∧
          cl Try.prog 20 [.slice x38 x38n x38c, .slice x40 x40n x40c] w11 fun e45 w12 => ∃ (x42 : Option Addr) (x42n x42c : Nat), ∃ x43 : Int, ∃ x44 : Int, e45 = Ending.returned (.tuple #[.slice x42 x42n x42c, .int .i64 x43, .int .i64 x44]) ∧
          pif (v20 == 0) (
            R (.bool (cond (cond (x44 == 0) ((x42n : Int) == 0) false) (x43 == (-1)) false)) w12) (
            pif (cond (cond (cond (x44 != 0) true ((x42n : Int) == 0)) true (decide (x43 < 0))) true (decide (x43 ≥ v20))) (
              R (.bool false) w12) (
              lp (σ := Int × Int × Unit) (fun s55 w13 k54 => match s55 with
                | (v52, v53, _) =>
                pif (decide (v53 < (x42n : Int))) (
                  jn (σ := Int × Unit) (fun k58 =>
                    ixA x42 x42n v53 1 fun p61 =>
                    ldI .i64 w13 p61 fun x62 =>
                    cl Try.prog 24 [.slice a0 a0n a0c, .int .i64 x62] w13 fun e65 w15 => ∃ x63 : Int, ∃ x64 : Int, e65 = Ending.returned (.tuple #[.int .i64 x63, .int .i64 x64]) ∧
                    gd (α := Addr) ((!(cond (decide (x63 < 1)) true (!((x63 == v20) == (v53 == 0))))) && (decide (v53 > 1))) (fun k66 =>
                      ixA x42 x42n v53 1 fun p67 =>
                      k66 p67 (World.drew w15)) ⟨0, 0, none⟩ (World.drew w15) fun x68 _ =>
                    gd (α := Int) ((!(cond (decide (x63 < 1)) true (!((x63 == v20) == (v53 == 0))))) && (decide (v53 > 1))) (fun k69 =>
                      ldI .i64 (World.drew w15) x68 fun x70 =>
                      k69 x70 (World.drew w15)) 0 (World.drew w15) fun x71 _ =>
                    gd (α := Addr) ((!(cond (decide (x63 < 1)) true (!((x63 == v20) == (v53 == 0))))) && (decide (v53 > 1))) (fun k72 =>
                      ixA x42 x42n (IntKind.wrap .i64 (v53 - 1)) 1 fun p73 =>
                      k72 p73 (World.drew w15)) ⟨0, 0, none⟩ (World.drew w15) fun x74 _ =>
                    gd (α := Int) ((!(cond (decide (x63 < 1)) true (!((x63 == v20) == (v53 == 0))))) && (decide (v53 > 1))) (fun k75 =>
                      ldI .i64 (World.drew w15) x74 fun x76 =>
                      k75 x76 (World.drew w15)) 0 (World.drew w15) fun x77 _ =>
                    gd (α := Int) ((!(cond (decide (x63 < 1)) true (!((x63 == v20) == (v53 == 0))))) && (decide (v53 > 1))) (fun k78 =>
                      cl Try.prog 25 [.int .i64 x71] (World.drew w15) fun e80 w16 => ∃ x79 : Int, e80 = Ending.returned (.int .i64 x79) ∧
                      k78 x79 w16) 0 (World.drew w15) fun x81 w17 =>
                    (((!(cond (decide (x63 < 1)) true (!((x63 == v20) == (v53 == 0))))) && (decide (v53 > 1))) = true →
                      ldI .i64 w17 x74 fun x82 =>
                      ((.int .i64 x82 : Value) = .int .i64 x77)) ∧
                    gd (α := Int) ((!(cond (decide (x63 < 1)) true (!((x63 == v20) == (v53 == 0))))) && (decide (v53 > 1))) (fun k83 =>
                      cl Try.prog 25 [.int .i64 x77] w17 fun e85 w18 => ∃ x84 : Int, e85 = Ending.returned (.int .i64 x84) ∧
                      k83 x84 w18) 0 w17 fun x86 w19 =>
                    pif (cond (cond (decide (x63 < 1)) true (!((x63 == v20) == (v53 == 0)))) true (cond (decide (v53 > 1)) (decide (x81 ≤ x86)) false)) (
                      R (.bool false) w19) (
                      pif (cond (decide (v53 > 0)) (decide (x63 > v52)) false) (
                        k58 (x63, ()) w19) (
                        k58 (v52, ()) w19))) fun s59 w14 => match s59 with
                  | (v57, _) =>
                  k54 (v57, (IntKind.wrap .i64 (v53 + 1)), ()) w14) (
                  R (.bool (x43 == v52)) w13)) (0, 0, ()) w12)))) (0, 0, ()) w6))
def An8 : An := .seq (.leaf) (.seq (.seq (.leaf) (.cond (.seq (.leaf) (.leaf)) (.leaf))) (.seq (.seq (.leaf) (.cond (.seq (.leaf) (.leaf)) (.leaf))) (.seq (.leaf) (.seq (.seq (.leaf) (.blk (.loop [(5, .one (.int .i64)), (6, .one (.int .i64))] (.seq (.seq (.leaf) (.cond (.leaf) (.leaf))) (.seq (.join [(5, .one (.int .i64))] (.blk (.seq (.leaf) (.seq (.leaf) (.cond (.leaf) (.leaf)))))) (.leaf)))))) (.seq (.leaf) (.seq (.seq (.leaf) (.cond (.seq (.leaf) (.leaf)) (.leaf))) (.seq (.seq (.leaf) (.cond (.seq (.leaf) (.leaf)) (.leaf))) (.seq (.leaf) (.seq (.seq (.leaf) (.blk (.loop [(12, .one (.int .i64)), (13, .one (.int .i64))] (.seq (.seq (.leaf) (.cond (.leaf) (.leaf))) (.seq (.join [(12, .one (.int .i64))] (.blk (.seq (.leaf) (.seq (.seq (.draw [0, 1, 3, 7, 7, 31, 7, 71, 255, 511, 1023, 2047, 4095, 8191, 16383, 16383, 65535, 131071, 262143, 16383, 16383, 1064959, 3686399, 7880703, 16777215, 33554431, 67108863, 134217727]) (.cond (.seq (.leaf) (.leaf)) (.leaf))) (.seq (.leaf) (.cond (.leaf) (.leaf))))))) (.leaf)))))) (.seq (.leaf) (.leaf)))))))))))
theorem V8_eq (a0 : Option Addr) (a0n : Nat) (a0c : Nat) (a1 : Option Addr) (a1n : Nat) (a1c : Nat) (w : World) (R : Value → World → Prop) : evF Try.prog Try.f8 An8 [.slice a0 a0n a0c, .slice a1 a1n a1c] w R = V8 a0 a0n a0c a1 a1n a1c w R := by kernel_rfl
theorem V8_calls (a0 : Option Addr) (a0n : Nat) (a0c : Nat) (a1 : Option Addr) (a1n : Nat) (a1c : Nat) (w : World) (R : Value → World → Prop) (h : V8 a0 a0n a0c a1 a1n a1c w R) : Calls Try.prog 8 #[.slice a0 a0n a0c, .slice a1 a1n a1c] w fun e w' => ∃ v, e = .returned v ∧ R v w' :=
  calls_of_ev (args := [.slice a0 a0n a0c, .slice a1 a1n a1c]) Try.func8 (Nat.le_of_ble_eq_true (by kernel_rfl)) (by rw [V8_eq]; exact h)
theorem ok8 : fnOk Try.prog 8 = true := by kernel_rfl

/-! depot/depotlaw15.awake -/
def V19  (w : World) (R : Value → World → Prop) : Prop :=
  alc w [.int .i64 2, .int .i64 (-1)] 3 fun b3 w1 =>
  alc w1 [.int .i64 4, .int .i64 (-3), .int .i64 (-2)] 3 fun b4 w2 =>
  alc w2 [.int .i64 5, .int .i64 (-4)] 3 fun b5 w3 =>
  alc w3 [.int .i64 1, .int .i64 1, .slice none 0 0, .int .i64 2, .int .i64 1, .slice (some (⟨b3, 0, none⟩ : Addr)) 2 2, .int .i64 3, .int .i64 2, .slice none 0 0, .int .i64 4, .int .i64 2, .slice (some (⟨b4, 0, none⟩ : Addr)) 3 3, .int .i64 5, .int .i64 2, .slice (some (⟨b5, 0, none⟩ : Addr)) 2 2] 54 fun b6 w4 =>
  alc w4 [.int .i64 (-5), .int .i64 (-3)] 3 fun b8 w5 =>
  cl Try.prog 20 [.slice (some (⟨b6, 0, none⟩ : Addr)) 5 5, .slice (some (⟨b8, 0, none⟩ : Addr)) 2 2] w5 fun e12 w6 => ∃ (x9 : Option Addr) (x9n x9c : Nat), ∃ x10 : Int, ∃ x11 : Int, e12 = Ending.returned (.tuple #[.slice x9 x9n x9c, .int .i64 x10, .int .i64 x11]) ∧
  gd (α := (Option Addr × Nat × Nat)) (cond (x11 == 0) (x10 == 1) false) (fun k14 =>
    alc w6 [.int .i64 (-3), .int .i64 (-2)] 3 fun b15 w7 =>
    k14 ((some (⟨b15, 0, none⟩ : Addr)), 2, 2) w7) (none, 0, 0) w6 fun x16 w8 =>
  gd (α := Bool) (cond (x11 == 0) (x10 == 1) false) (fun k17 =>
    cl Try.prog 18 [.slice x9 x9n x9c, .slice x16.1 x16.2.1 x16.2.2] w8 fun e19 w9 => ∃ x18 : Bool, e19 = Ending.returned (.bool x18) ∧
    k17 x18 w9) false w8 fun x20 w10 =>
  R (.bool (cond (cond (x11 == 0) (x10 == 1) false) x20 false)) w10
def An19 : An := .seq (.leaf) (.seq (.leaf) (.seq (.leaf) (.seq (.leaf) (.leaf))))
theorem V19_eq  (w : World) (R : Value → World → Prop) : evF Try.prog Try.f19 An19 [] w R = V19  w R := by kernel_rfl
theorem V19_calls  (w : World) (R : Value → World → Prop) (h : V19  w R) : Calls Try.prog 19 #[] w fun e w' => ∃ v, e = .returned v ∧ R v w' :=
  calls_of_ev (args := []) Try.func19 (Nat.le_of_ble_eq_true (by kernel_rfl)) (by rw [V19_eq]; exact h)
theorem ok19 : fnOk Try.prog 19 = true := by kernel_rfl

/-! depot/depotref15.Learn -/
def V21 (a0 : Option Addr) (a0n : Nat) (a0c : Nat) (a1 : Option Addr) (a1n : Nat) (a1c : Nat) (w : World) (R : Value → World → Prop) : Prop :=
  cl Try.prog 45 [.slice a0 a0n a0c, .slice a1 a1n a1c] w fun e4 w1 => ∃ x3 : Int, e4 = Ending.returned (.int .i64 x3) ∧
  pif (x3 != 0) (
    R (.tuple #[.slice none 0 0, .int .i64 0, .int .i64 x3]) w1) (
    cl Try.prog 49 [.slice a1 a1n a1c] w1 fun e9 w2 => ∃ (x8 : Option Addr) (x8n x8c : Nat), e9 = Ending.returned (.slice x8 x8n x8c) ∧
    lp (σ := Int × Int × Unit) (fun s15 w3 k14 => match s15 with
      | (v12, v13, _) =>
      pif (decide (v13 < (x8n : Int))) (
        jn (σ := Int × Unit) (fun k18 =>
          ixA x8 x8n v13 1 fun p21 =>
          ldI .i64 w3 p21 fun x22 =>
          cl Try.prog 50 [.slice a0 a0n a0c, .int .i64 x22] w3 fun e24 w5 => ∃ x23 : Int, e24 = Ending.returned (.int .i64 x23) ∧
          pif (decide (x23 > v12)) (
            ixA x8 x8n v13 1 fun p26 =>
            ldI .i64 w5 p26 fun x27 =>
            cl Try.prog 50 [.slice a0 a0n a0c, .int .i64 x27] w5 fun e29 w6 => ∃ x28 : Int, e29 = Ending.returned (.int .i64 x28) ∧
            k18 (x28, ()) w6) (
            k18 (v12, ()) w5)) fun s19 w4 => match s19 with
        | (v17, _) =>
        k14 (v17, (IntKind.wrap .i64 (v13 + 1)), ()) w4) (
        pif (v12 == 0) (
          R (.tuple #[.slice none 0 0, .int .i64 (-1), .int .i64 0]) w3) (
          cl Try.prog 51 [.slice a0 a0n a0c, .slice x8 x8n x8c, .int .i64 v12] w3 fun e36 w7 => ∃ x34 : Int, ∃ x35 : Int, e36 = Ending.returned (.tuple #[.int .i64 x34, .int .i64 x35]) ∧
          lp (σ := (Option Addr × Nat × Nat) × Int × Int × Unit) (fun s41 w8 k40 => match s41 with
            | ((v37, v37n, v37c), v38, v39, _) =>
            pif (decide (v38 > 1)) (
              cl Try.prog 36 [.slice a0 a0n a0c, .int .i64 v39] w8 fun e45 w9 => ∃ x44 : Int, e45 = Ending.returned (.int .i64 x44) ∧
              ixA a0 a0n x44 3 fun p46 =>
              ldC (World.drew w9) (p46.add 2) fun x47 x47n x47c =>
              cl Try.prog 53 [.slice v37 v37n v37c, .int .i64 v39] (World.drew w9) fun e49 w10 => ∃ (x48 : Option Addr) (x48n x48c : Nat), e49 = Ending.returned (.slice x48 x48n x48c) ∧
              (
                ldC w10 (p46.add 2) fun x50 x50n x50c =>
                ((.slice x50 x50n x50c : Value) = .slice x47 x47n x47c)) ∧
              cl Try.prog 53 [.slice x47 x47n x47c, .int .i64 (IntKind.wrap .i64 (0 - v39))] w10 fun e52 w11 => ∃ (x51 : Option Addr) (x51n x51c : Nat), e52 = Ending.returned (.slice x51 x51n x51c) ∧
              cl Try.prog 52 [.slice x48 x48n x48c, .slice x51 x51n x51c] w11 fun e54 w12 => ∃ (x53 : Option Addr) (x53n x53c : Nat), e54 = Ending.returned (.slice x53 x53n x53c) ∧
              cl Try.prog 51 [.slice a0 a0n a0c, .slice x53 x53n x53c, .int .i64 v12] w12 fun e58 w13 => ∃ x56 : Int, ∃ x57 : Int, e58 = Ending.returned (.tuple #[.int .i64 x56, .int .i64 x57]) ∧
              k40 ((x53, x53n, x53c), x56, x57, ()) w13) (
              alc w8 [.int .i64 v39] 3 fun b60 w14 =>
              lp (σ := (Option Addr × Nat × Nat) × Int × Int × Unit) (fun s67 w15 k66 => match s67 with
                | ((v63, v63n, v63c), v64, v65, _) =>
                pif (decide (v65 < (v37n : Int))) (
                  jn (σ := (Option Addr × Nat × Nat) × Int × Unit) (fun k71 =>
                    ixA v37 v37n v65 1 fun p74 =>
                    ldI .i64 w15 p74 fun x75 =>
                    cl Try.prog 50 [.slice a0 a0n a0c, .int .i64 x75] w15 fun e77 w17 => ∃ x76 : Int, e77 = Ending.returned (.int .i64 x76) ∧
                    ixA v37 v37n v65 1 fun p79 =>
                    ldI .i64 w17 p79 fun x80 =>
                    pif (cond (x80 != v39) (decide (x76 > 0)) false) (
                      ixA v37 v37n v65 1 fun p82 =>
                      ldI .i64 w17 p82 fun x83 =>
                      alc w17 [.int .i64 x83] 3 fun b84 w18 =>
                      ∃ (x85 : Option Addr) (x85n x85c : Nat), ∃ w19 : World, (Builtin.append_ #[25, 25] 25 #[.slice v63 v63n v63c, .slice (some (⟨b84, 0, none⟩ : Addr)) 1 1]).run Try.prog w18 = .ok (.slice x85 x85n x85c) w19 ∧
                      pif (decide (x76 > v64)) (
                        k71 ((x85, x85n, x85c), x76, ()) w19) (
                        k71 ((x85, x85n, x85c), v64, ()) w19)) (
                      k71 ((v63, v63n, v63c), v64, ()) w17)) fun s72 w16 => match s72 with
                  | ((v69, v69n, v69c), v70, _) =>
                  k66 ((v69, v69n, v69c), v70, (IntKind.wrap .i64 (v65 + 1)), ()) w16) (
                  R (.tuple #[.slice v63 v63n v63c, .int .i64 v64, .int .i64 0]) w15)) (((some (⟨b60, 0, none⟩ : Addr)), 1, 1), 0, 0, ()) w14)) ((x8, x8n, x8c), x34, x35, ()) w7))) (0, 0, ()) w2)
def An21 : An := .seq (.leaf) (.seq (.seq (.leaf) (.seq (.leaf) (.cond (.seq (.leaf) (.leaf)) (.leaf)))) (.seq (.leaf) (.seq (.leaf) (.seq (.seq (.leaf) (.blk (.loop [(9, .one (.int .i64)), (10, .one (.int .i64))] (.seq (.seq (.leaf) (.cond (.leaf) (.leaf))) (.seq (.join [(9, .one (.int .i64))] (.blk (.seq (.leaf) (.cond (.leaf) (.leaf))))) (.leaf)))))) (.seq (.seq (.leaf) (.cond (.seq (.leaf) (.leaf)) (.leaf))) (.seq (.leaf) (.seq (.blk (.loop [(8, .one (.slc)), (11, .one (.int .i64)), (12, .one (.int .i64))] (.seq (.seq (.leaf) (.cond (.leaf) (.leaf))) (.blk (.seq (.leaf) (.seq (.draw [0, 0, 3, 0, 0, 24, 56, 120, 0, 256, 1023, 2047, 4095]) (.leaf))))))) (.seq (.leaf) (.seq (.leaf) (.seq (.seq (.leaf) (.blk (.loop [(14, .one (.slc)), (15, .one (.int .i64)), (16, .one (.int .i64))] (.seq (.seq (.leaf) (.cond (.leaf) (.leaf))) (.seq (.join [(14, .one (.slc)), (15, .one (.int .i64))] (.blk (.seq (.leaf) (.seq (.leaf) (.cond (.seq (.leaf) (.seq (.leaf) (.cond (.leaf) (.leaf)))) (.leaf)))))) (.leaf)))))) (.seq (.leaf) (.leaf))))))))))))
theorem V21_eq (a0 : Option Addr) (a0n : Nat) (a0c : Nat) (a1 : Option Addr) (a1n : Nat) (a1c : Nat) (w : World) (R : Value → World → Prop) : evF Try.prog Try.f21 An21 [.slice a0 a0n a0c, .slice a1 a1n a1c] w R = V21 a0 a0n a0c a1 a1n a1c w R := by kernel_rfl
theorem V21_calls (a0 : Option Addr) (a0n : Nat) (a0c : Nat) (a1 : Option Addr) (a1n : Nat) (a1c : Nat) (w : World) (R : Value → World → Prop) (h : V21 a0 a0n a0c a1 a1n a1c w R) : Calls Try.prog 21 #[.slice a0 a0n a0c, .slice a1 a1n a1c] w fun e w' => ∃ v, e = .returned v ∧ R v w' :=
  calls_of_ev (args := [.slice a0 a0n a0c, .slice a1 a1n a1c]) Try.func21 (Nat.le_of_ble_eq_true (by kernel_rfl)) (by rw [V21_eq]; exact h)
theorem ok21 : fnOk Try.prog 21 = true := by kernel_rfl

/-! depot/depotlaw15.shaped -/
def V22 (a0 : Option Addr) (a0n : Nat) (a0c : Nat) (w : World) (R : Value → World → Prop) : Prop :=
  lp (σ := Int × Unit) (fun s5 w1 k4 => match s5 with
    | (v3, _) =>
    pif (decide (v3 < (a0n : Int))) (
      ixA a0 a0n v3 1 fun p8 =>
      ldI .i64 w1 p8 fun x9 =>
      gd (α := Addr) (!(x9 == 0)) (fun k10 =>
        ixA a0 a0n v3 1 fun p11 =>
        k10 p11 w1) ⟨0, 0, none⟩ w1 fun x12 w2 =>
      gd (α := Int) (!(x9 == 0)) (fun k13 =>
        ldI .i64 w2 x12 fun x14 =>
        k13 x14 w2) 0 w2 fun x15 w3 =>
      gd (α := Addr) (!(cond (x9 == 0) true (decide (x15 > 1048576)))) (fun k16 =>
        ixA a0 a0n v3 1 fun p17 =>
        k16 p17 w3) ⟨0, 0, none⟩ w3 fun x18 w4 =>
      gd (α := Int) (!(cond (x9 == 0) true (decide (x15 > 1048576)))) (fun k19 =>
        ldI .i64 w4 x18 fun x20 =>
        k19 x20 w4) 0 w4 fun x21 w5 =>
      pif (cond (cond (x9 == 0) true (decide (x15 > 1048576))) true (decide (x21 < (-1048576)))) (
        R (.bool false) w5) (
        k4 ((IntKind.wrap .i64 (v3 + 1)), ()) w5)) (
      R (.bool true) w1)) (0, ()) w
def An22 : An := .seq (.leaf) (.seq (.seq (.leaf) (.blk (.loop [(3, .one (.int .i64))] (.seq (.seq (.leaf) (.cond (.leaf) (.leaf))) (.seq (.blk (.seq (.leaf) (.cond (.seq (.leaf) (.leaf)) (.leaf)))) (.leaf)))))) (.seq (.leaf) (.leaf)))
theorem V22_eq (a0 : Option Addr) (a0n : Nat) (a0c : Nat) (w : World) (R : Value → World → Prop) : evF Try.prog Try.f22 An22 [.slice a0 a0n a0c] w R = V22 a0 a0n a0c w R := by kernel_rfl
theorem V22_calls (a0 : Option Addr) (a0n : Nat) (a0c : Nat) (w : World) (R : Value → World → Prop) (h : V22 a0 a0n a0c w R) : Calls Try.prog 22 #[.slice a0 a0n a0c] w fun e w' => ∃ v, e = .returned v ∧ R v w' :=
  calls_of_ev (args := [.slice a0 a0n a0c]) Try.func22 (Nat.le_of_ble_eq_true (by kernel_rfl)) (by rw [V22_eq]; exact h)
theorem ok22 : fnOk Try.prog 22 = true := by kernel_rfl

/-! depot/depotlaw15.where -/
def V24 (a0 : Option Addr) (a0n : Nat) (a0c : Nat) (a1 : Int) (w : World) (R : Value → World → Prop) : Prop :=
  lp (σ := Int × Unit) (fun s5 w1 k4 => match s5 with
    | (v3, _) =>
    pif (decide (v3 < (a0n : Int))) (
      ixA a0 a0n v3 3 fun p8 =>
      ldI .i64 w1 (p8.add 0) fun x9 =>
      pif (x9 == (IntKind.wrap .i64 (0 - a1))) (
        ixA a0 a0n v3 3 fun p11 =>
        ldI .i64 w1 (p11.add 1) fun x12 =>
        R (.tuple #[.int .i64 x12, .int .i64 v3]) w1) (
        k4 ((IntKind.wrap .i64 (v3 + 1)), ()) w1)) (
      R (.tuple #[.int .i64 (-1), .int .i64 (-1)]) w1)) (0, ()) w
def An24 : An := .seq (.leaf) (.seq (.seq (.leaf) (.blk (.loop [(6, .one (.int .i64))] (.seq (.seq (.leaf) (.cond (.leaf) (.leaf))) (.seq (.blk (.seq (.leaf) (.cond (.seq (.leaf) (.leaf)) (.leaf)))) (.leaf)))))) (.seq (.leaf) (.leaf)))
theorem V24_eq (a0 : Option Addr) (a0n : Nat) (a0c : Nat) (a1 : Int) (w : World) (R : Value → World → Prop) : evF Try.prog Try.f24 An24 [.slice a0 a0n a0c, .int .i64 a1] w R = V24 a0 a0n a0c a1 w R := by kernel_rfl
theorem V24_calls (a0 : Option Addr) (a0n : Nat) (a0c : Nat) (a1 : Int) (w : World) (R : Value → World → Prop) (h : V24 a0 a0n a0c a1 w R) : Calls Try.prog 24 #[.slice a0 a0n a0c, .int .i64 a1] w fun e w' => ∃ v, e = .returned v ∧ R v w' :=
  calls_of_ev (args := [.slice a0 a0n a0c, .int .i64 a1]) Try.func24 (Nat.le_of_ble_eq_true (by kernel_rfl)) (by rw [V24_eq]; exact h)
theorem ok24 : fnOk Try.prog 24 = true := by kernel_rfl

/-! depot/depotlaw15.index -/
def V25 (a0 : Int) (w : World) (R : Value → World → Prop) : Prop :=
  pif (decide (a0 < 0)) (
    R (.int .i64 (IntKind.wrap .i64 ((IntKind.wrap .i64 ((-2) * a0)) - 1))) w) (
    R (.int .i64 (IntKind.wrap .i64 ((IntKind.wrap .i64 (2 * a0)) - 2))) w)
def An25 : An := .seq (.leaf) (.seq (.seq (.leaf) (.cond (.seq (.leaf) (.leaf)) (.leaf))) (.seq (.leaf) (.leaf)))
theorem V25_eq (a0 : Int) (w : World) (R : Value → World → Prop) : evF Try.prog Try.f25 An25 [.int .i64 a0] w R = V25 a0 w R := by kernel_rfl
theorem V25_calls (a0 : Int) (w : World) (R : Value → World → Prop) (h : V25 a0 w R) : Calls Try.prog 25 #[.int .i64 a0] w fun e w' => ∃ v, e = .returned v ∧ R v w' :=
  calls_of_ev (args := [.int .i64 a0]) Try.func25 (Nat.le_of_ble_eq_true (by kernel_rfl)) (by rw [V25_eq]; exact h)
theorem ok25 : fnOk Try.prog 25 = true := by kernel_rfl

/-! depot/learn.Learn$1 -/
def V47 (a0 : Int) (c0 : Addr) (c1 : Addr) (w : World) (R : Value → World → Prop) : Prop :=
  ldC w c0 fun x3 x3n x3c =>
  ldM w c1 fun x4 =>
  ∃ x5 : Int, ∃ w1 : World, (Instr.lookup 52 (.map x4) (.int .i64 a0) false).run Try.prog w = .ok (.int .i64 x5) w1 ∧
  ixA x3 x3n (IntKind.wrap .i64 (x5 - 1)) 3 fun p6 =>
  ldI .i64 w1 (p6.add 1) fun x7 =>
  R (.int .i64 x7) w1
def An47 : An := .seq (.leaf) (.seq (.leaf) (.leaf))
theorem V47_eq (a0 : Int) (c0 : Addr) (c1 : Addr) (w : World) (R : Value → World → Prop) : evF Try.prog Try.f47 An47 [.int .i64 a0, .pointer (some c0), .pointer (some c1)] w R = V47 a0 c0 c1 w R := by kernel_rfl
theorem V47_calls (a0 : Int) (c0 : Addr) (c1 : Addr) (w : World) (R : Value → World → Prop) (h : V47 a0 c0 c1 w R) : Calls Try.prog 47 #[.int .i64 a0, .pointer (some c0), .pointer (some c1)] w fun e w' => ∃ v, e = .returned v ∧ R v w' :=
  calls_of_ev (args := [.int .i64 a0, .pointer (some c0), .pointer (some c1)]) Try.func47 (Nat.le_of_ble_eq_true (by kernel_rfl)) (by rw [V47_eq]; exact h)
theorem ok47 : fnOk Try.prog 47 = true := by kernel_rfl

/-! depot/lits.Tidy -/
def V48 (a0 : Option Addr) (a0n : Nat) (a0c : Nat) (w : World) (R : Value → World → Prop) : Prop :=
  ∃ (x3 : Option Addr) (x3n x3c : Nat), ∃ w1 : World, (Instr.makeSlice 25 (.int .i64 0) (.int .i64 (a0n : Int))).run Try.prog w = .ok (.slice x3 x3n x3c) w1 ∧
  lp (σ := (Option Addr × Nat × Nat) × Int × Unit) (fun s8 w2 k7 => match s8 with
    | ((v5, v5n, v5c), v6, _) =>
    pif (decide (v6 < (a0n : Int))) (
      jn (σ := (Option Addr × Nat × Nat) × Unit) (fun k11 =>
        ixA a0 a0n v6 1 fun p14 =>
        ldI .i64 w2 p14 fun x15 =>
        cl Try.prog 33 [.int .i64 x15] w2 fun e18 w4 => ∃ x17 : Bool, e18 = Ending.returned (.bool x17) ∧
        pif x17 (
          alc w4 [.int .i64 x15] 3 fun b20 w5 =>
          ∃ (x21 : Option Addr) (x21n x21c : Nat), ∃ w6 : World, (Builtin.append_ #[25, 25] 25 #[.slice v5 v5n v5c, .slice (some (⟨b20, 0, none⟩ : Addr)) 1 1]).run Try.prog w5 = .ok (.slice x21 x21n x21c) w6 ∧
          k11 ((x21, x21n, x21c), ()) w6) (
          k11 ((v5, v5n, v5c), ()) w4)) fun s12 w3 => match s12 with
      | ((v10, v10n, v10c), _) =>
      k7 ((v10, v10n, v10c), (IntKind.wrap .i64 (v6 + 1)), ()) w3) (
      cl Try.prog 56 [.slice v5 v5n v5c, .func (.func 57) #[] #[]] w2 fun e24 w7 => e24 = Ending.returned (.tuple #[]) ∧
      cl Try.prog 58 [.slice v5 v5n v5c] w7 fun e27 w8 => ∃ (x26 : Option Addr) (x26n x26c : Nat), e27 = Ending.returned (.slice x26 x26n x26c) ∧
      R (.slice x26 x26n x26c) w8)) ((x3, x3n, x3c), 0, ()) w1
def An48 : An := .seq (.leaf) (.seq (.leaf) (.seq (.seq (.leaf) (.blk (.loop [(3, .one (.slc)), (11, .one (.int .i64))] (.seq (.leaf) (.seq (.cond (.leaf) (.leaf)) (.seq (.join [(3, .one (.slc))] (.blk (.seq (.leaf) (.seq (.leaf) (.cond (.leaf) (.leaf)))))) (.leaf))))))) (.seq (.leaf) (.seq (.leaf) (.leaf)))))
theorem V48_eq (a0 : Option Addr) (a0n : Nat) (a0c : Nat) (w : World) (R : Value → World → Prop) : evF Try.prog Try.f48 An48 [.slice a0 a0n a0c] w R = V48 a0 a0n a0c w R := by kernel_rfl
theorem V48_calls (a0 : Option Addr) (a0n : Nat) (a0c : Nat) (w : World) (R : Value → World → Prop) (h : V48 a0 a0n a0c w R) : Calls Try.prog 48 #[.slice a0 a0n a0c] w fun e w' => ∃ v, e = .returned v ∧ R v w' :=
  calls_of_ev (args := [.slice a0 a0n a0c]) Try.func48 (Nat.le_of_ble_eq_true (by kernel_rfl)) (by rw [V48_eq]; exact h)
theorem ok48 : fnOk Try.prog 48 = true := by kernel_rfl

/-! depot/depotref01.Tidy -/
def V49 (a0 : Option Addr) (a0n : Nat) (a0c : Nat) (w : World) (R : Value → World → Prop) : Prop :=
  pif ((a0n : Int) == 0) (
    R (.slice none 0 0) w) (
    pif ((a0n : Int) == 1) (
      ixA a0 a0n 0 1 fun p6 =>
      ldI .i64 w p6 fun x7 =>
      cl Try.prog 35 [.int .i64 x7] w fun e9 w1 => ∃ x8 : Bool, e9 = Ending.returned (.bool x8) ∧
      pif x8 (
        ixA a0 a0n 0 1 fun p11 =>
        ldI .i64 w1 p11 fun x12 =>
        alc w1 [.int .i64 x12] 3 fun b13 w2 =>
        R (.slice (some (⟨b13, 0, none⟩ : Addr)) 1 1) w2) (
        R (.slice none 0 0) w1)) (
      0 ≤ (IntKind.wrap .i64 (Int.tdiv (a0n : Int) 2)) ∧ (IntKind.wrap .i64 (Int.tdiv (a0n : Int) 2)) ≤ (a0c : Int) ∧
      cl Try.prog 49 [.slice (slA a0 a0c 0 1) ((Int.toNat (IntKind.wrap .i64 (Int.tdiv (a0n : Int) 2))) - 0) (a0c - 0)] w fun e18 w3 => ∃ (x17 : Option Addr) (x17n x17c : Nat), e18 = Ending.returned (.slice x17 x17n x17c) ∧
      0 ≤ (IntKind.wrap .i64 (Int.tdiv (a0n : Int) 2)) ∧ (IntKind.wrap .i64 (Int.tdiv (a0n : Int) 2)) ≤ (a0n : Int) ∧
      cl Try.prog 49 [.slice (slA a0 a0c (Int.toNat (IntKind.wrap .i64 (Int.tdiv (a0n : Int) 2))) 1) (a0n - (Int.toNat (IntKind.wrap .i64 (Int.tdiv (a0n : Int) 2)))) (a0c - (Int.toNat (IntKind.wrap .i64 (Int.tdiv (a0n : Int) 2))))] w3 fun e21 w4 => ∃ (x20 : Option Addr) (x20n x20c : Nat), e21 = Ending.returned (.slice x20 x20n x20c) ∧
      cl Try.prog 59 [.slice x17 x17n x17c, .slice x20 x20n x20c] w4 fun e24 w5 => ∃ (x23 : Option Addr) (x23n x23c : Nat), e24 = Ending.returned (.slice x23 x23n x23c) ∧
      R (.slice x23 x23n x23c) w5))
def An49 : An := .seq (.leaf) (.seq (.seq (.leaf) (.cond (.seq (.leaf) (.leaf)) (.leaf))) (.seq (.seq (.leaf) (.cond (.seq (.seq (.leaf) (.cond (.seq (.leaf) (.leaf)) (.leaf))) (.seq (.leaf) (.leaf))) (.leaf))) (.seq (.leaf) (.seq (.leaf) (.seq (.leaf) (.seq (.leaf) (.leaf)))))))
theorem V49_eq (a0 : Option Addr) (a0n : Nat) (a0c : Nat) (w : World) (R : Value → World → Prop) : evF Try.prog Try.f49 An49 [.slice a0 a0n a0c] w R = V49 a0 a0n a0c w R := by kernel_rfl
theorem V49_calls (a0 : Option Addr) (a0n : Nat) (a0c : Nat) (w : World) (R : Value → World → Prop) (h : V49 a0 a0n a0c w R) : Calls Try.prog 49 #[.slice a0 a0n a0c] w fun e w' => ∃ v, e = .returned v ∧ R v w' :=
  calls_of_ev (args := [.slice a0 a0n a0c]) Try.func49 (Nat.le_of_ble_eq_true (by kernel_rfl)) (by rw [V49_eq]; exact h)
theorem ok49 : fnOk Try.prog 49 = true := by kernel_rfl

/-! depot/depotref15.last -/
def V51 (a0 : Option Addr) (a0n : Nat) (a0c : Nat) (a1 : Option Addr) (a1n : Nat) (a1c : Nat) (a2 : Int) (w : World) (R : Value → World → Prop) : Prop :=
  lp (σ := Int × Int × Int × Unit) (fun s9 w1 k8 => match s9 with
    | (v5, v6, v7, _) =>
    pif (decide (v7 < (a1n : Int))) (
      jn (σ := Int × Int × Unit) (fun k13 =>
        ixA a1 a1n v7 1 fun p16 =>
        ldI .i64 w1 p16 fun x17 =>
        cl Try.prog 50 [.slice a0 a0n a0c, .int .i64 x17] w1 fun e19 w3 => ∃ x18 : Int, e19 = Ending.returned (.int .i64 x18) ∧
        pif (x18 == a2) (
          gd (α := Addr) (!(v6 == 0)) (fun k22 =>
            ixA a1 a1n v7 1 fun p23 =>
            k22 p23 w3) ⟨0, 0, none⟩ w3 fun x24 w4 =>
          gd (α := Int) (!(v6 == 0)) (fun k25 =>
            ldI .i64 w4 x24 fun x26 =>
            k25 x26 w4) 0 w4 fun x27 w5 =>
          gd (α := Int) (!(v6 == 0)) (fun k28 =>
            cl Try.prog 36 [.slice a0 a0n a0c, .int .i64 x27] w5 fun e30 w6 => ∃ x29 : Int, e30 = Ending.returned (.int .i64 x29) ∧
            k28 x29 w6) 0 w5 fun x31 w7 =>
          gd (α := Int) (!(v6 == 0)) (fun k32 =>
            cl Try.prog 36 [.slice a0 a0n a0c, .int .i64 v6] w7 fun e34 w8 => ∃ x33 : Int, e34 = Ending.returned (.int .i64 x33) ∧
            k32 x33 w8) 0 w7 fun x35 w9 =>
          pif (cond (v6 == 0) true (decide (x31 > x35))) (
            ixA a1 a1n v7 1 fun p37 =>
            ldI .i64 w9 p37 fun x38 =>
            k13 ((IntKind.wrap .i64 (v5 + 1)), x38, ()) w9) (
            k13 ((IntKind.wrap .i64 (v5 + 1)), v6, ()) w9)) (
          k13 (v5, v6, ()) w3)) fun s14 w2 => match s14 with
      | (v11, v12, _) =>
      k8 (v11, v12, (IntKind.wrap .i64 (v7 + 1)), ()) w2) (
      R (.tuple #[.int .i64 v5, .int .i64 v6]) w1)) (0, 0, 0, ()) w
def An51 : An := .seq (.leaf) (.seq (.leaf) (.seq (.leaf) (.seq (.seq (.leaf) (.blk (.loop [(8, .one (.int .i64)), (9, .one (.int .i64)), (10, .one (.int .i64))] (.seq (.seq (.leaf) (.cond (.leaf) (.leaf))) (.seq (.join [(8, .one (.int .i64)), (9, .one (.int .i64))] (.blk (.seq (.leaf) (.cond (.seq (.leaf) (.seq (.leaf) (.cond (.leaf) (.leaf)))) (.leaf))))) (.leaf)))))) (.seq (.leaf) (.leaf)))))
theorem V51_eq (a0 : Option Addr) (a0n : Nat) (a0c : Nat) (a1 : Option Addr) (a1n : Nat) (a1c : Nat) (a2 : Int) (w : World) (R : Value → World → Prop) : evF Try.prog Try.f51 An51 [.slice a0 a0n a0c, .slice a1 a1n a1c, .int .i64 a2] w R = V51 a0 a0n a0c a1 a1n a1c a2 w R := by kernel_rfl
theorem V51_calls (a0 : Option Addr) (a0n : Nat) (a0c : Nat) (a1 : Option Addr) (a1n : Nat) (a1c : Nat) (a2 : Int) (w : World) (R : Value → World → Prop) (h : V51 a0 a0n a0c a1 a1n a1c a2 w R) : Calls Try.prog 51 #[.slice a0 a0n a0c, .slice a1 a1n a1c, .int .i64 a2] w fun e w' => ∃ v, e = .returned v ∧ R v w' :=
  calls_of_ev (args := [.slice a0 a0n a0c, .slice a1 a1n a1c, .int .i64 a2]) Try.func51 (Nat.le_of_ble_eq_true (by kernel_rfl)) (by rw [V51_eq]; exact h)
theorem ok51 : fnOk Try.prog 51 = true := by kernel_rfl

/-! depot/depotref01.Join -/
def V52 (a0 : Option Addr) (a0n : Nat) (a0c : Nat) (a1 : Option Addr) (a1n : Nat) (a1c : Nat) (w : World) (R : Value → World → Prop) : Prop :=
  cl Try.prog 49 [.slice a0 a0n a0c] w fun e4 w1 => ∃ (x3 : Option Addr) (x3n x3c : Nat), e4 = Ending.returned (.slice x3 x3n x3c) ∧
  cl Try.prog 49 [.slice a1 a1n a1c] w1 fun e6 w2 => ∃ (x5 : Option Addr) (x5n x5c : Nat), e6 = Ending.returned (.slice x5 x5n x5c) ∧
  cl Try.prog 59 [.slice x3 x3n x3c, .slice x5 x5n x5c] w2 fun e8 w3 => ∃ (x7 : Option Addr) (x7n x7c : Nat), e8 = Ending.returned (.slice x7 x7n x7c) ∧
  R (.slice x7 x7n x7c) w3
def An52 : An := .seq (.leaf) (.seq (.leaf) (.leaf))
theorem V52_eq (a0 : Option Addr) (a0n : Nat) (a0c : Nat) (a1 : Option Addr) (a1n : Nat) (a1c : Nat) (w : World) (R : Value → World → Prop) : evF Try.prog Try.f52 An52 [.slice a0 a0n a0c, .slice a1 a1n a1c] w R = V52 a0 a0n a0c a1 a1n a1c w R := by kernel_rfl
theorem V52_calls (a0 : Option Addr) (a0n : Nat) (a0c : Nat) (a1 : Option Addr) (a1n : Nat) (a1c : Nat) (w : World) (R : Value → World → Prop) (h : V52 a0 a0n a0c a1 a1n a1c w R) : Calls Try.prog 52 #[.slice a0 a0n a0c, .slice a1 a1n a1c] w fun e w' => ∃ v, e = .returned v ∧ R v w' :=
  calls_of_ev (args := [.slice a0 a0n a0c, .slice a1 a1n a1c]) Try.func52 (Nat.le_of_ble_eq_true (by kernel_rfl)) (by rw [V52_eq]; exact h)
theorem ok52 : fnOk Try.prog 52 = true := by kernel_rfl

/-! depot/depotref01.Without -/
def V53 (a0 : Option Addr) (a0n : Nat) (a0c : Nat) (a1 : Int) (w : World) (R : Value → World → Prop) : Prop :=
  cl Try.prog 49 [.slice a0 a0n a0c] w fun e4 w1 => ∃ (x3 : Option Addr) (x3n x3c : Nat), e4 = Ending.returned (.slice x3 x3n x3c) ∧
  lp (σ := (Option Addr × Nat × Nat) × Int × Unit) (fun s10 w2 k9 => match s10 with
    | ((v7, v7n, v7c), v8, _) =>
    pif (decide (v8 < (x3n : Int))) (
      jn (σ := (Option Addr × Nat × Nat) × Unit) (fun k13 =>
        ixA x3 x3n v8 1 fun p16 =>
        ldI .i64 w2 p16 fun x17 =>
        pif (x17 != a1) (
          ixA x3 x3n v8 1 fun p19 =>
          ldI .i64 w2 p19 fun x20 =>
          alc w2 [.int .i64 x20] 3 fun b21 w4 =>
          ∃ (x22 : Option Addr) (x22n x22c : Nat), ∃ w5 : World, (Builtin.append_ #[25, 25] 25 #[.slice v7 v7n v7c, .slice (some (⟨b21, 0, none⟩ : Addr)) 1 1]).run Try.prog w4 = .ok (.slice x22 x22n x22c) w5 ∧
          k13 ((x22, x22n, x22c), ()) w5) (
          k13 ((v7, v7n, v7c), ()) w2)) fun s14 w3 => match s14 with
      | ((v12, v12n, v12c), _) =>
      k9 ((v12, v12n, v12c), (IntKind.wrap .i64 (v8 + 1)), ()) w3) (
      R (.slice v7 v7n v7c) w2)) ((none, 0, 0), 0, ()) w1
def An53 : An := .seq (.leaf) (.seq (.leaf) (.seq (.leaf) (.seq (.seq (.leaf) (.blk (.loop [(6, .one (.slc)), (7, .one (.int .i64))] (.seq (.seq (.leaf) (.cond (.leaf) (.leaf))) (.seq (.join [(6, .one (.slc))] (.blk (.seq (.leaf) (.cond (.leaf) (.leaf))))) (.leaf)))))) (.seq (.leaf) (.leaf)))))
theorem V53_eq (a0 : Option Addr) (a0n : Nat) (a0c : Nat) (a1 : Int) (w : World) (R : Value → World → Prop) : evF Try.prog Try.f53 An53 [.slice a0 a0n a0c, .int .i64 a1] w R = V53 a0 a0n a0c a1 w R := by kernel_rfl
theorem V53_calls (a0 : Option Addr) (a0n : Nat) (a0c : Nat) (a1 : Int) (w : World) (R : Value → World → Prop) (h : V53 a0 a0n a0c a1 w R) : Calls Try.prog 53 #[.slice a0 a0n a0c, .int .i64 a1] w fun e w' => ∃ v, e = .returned v ∧ R v w' :=
  calls_of_ev (args := [.slice a0 a0n a0c, .int .i64 a1]) Try.func53 (Nat.le_of_ble_eq_true (by kernel_rfl)) (by rw [V53_eq]; exact h)
theorem ok53 : fnOk Try.prog 53 = true := by kernel_rfl

/-! depot/lits.byIndex -/
def V57 (a0 : Int) (a1 : Int) (w : World) (R : Value → World → Prop) : Prop :=
  cl Try.prog 63 [.int .i64 a0] w fun e4 w1 => ∃ x3 : Int, e4 = Ending.returned (.int .i64 x3) ∧
  cl Try.prog 63 [.int .i64 a1] w1 fun e6 w2 => ∃ x5 : Int, e6 = Ending.returned (.int .i64 x5) ∧
  R (.int .i64 (IntKind.wrap .i64 (x3 - x5))) w2
def An57 : An := .seq (.leaf) (.seq (.leaf) (.leaf))
theorem V57_eq (a0 : Int) (a1 : Int) (w : World) (R : Value → World → Prop) : evF Try.prog Try.f57 An57 [.int .i64 a0, .int .i64 a1] w R = V57 a0 a1 w R := by kernel_rfl
theorem V57_calls (a0 : Int) (a1 : Int) (w : World) (R : Value → World → Prop) (h : V57 a0 a1 w R) : Calls Try.prog 57 #[.int .i64 a0, .int .i64 a1] w fun e w' => ∃ v, e = .returned v ∧ R v w' :=
  calls_of_ev (args := [.int .i64 a0, .int .i64 a1]) Try.func57 (Nat.le_of_ble_eq_true (by kernel_rfl)) (by rw [V57_eq]; exact h)
theorem ok57 : fnOk Try.prog 57 = true := by kernel_rfl

/-! slices.Compact[[]int,int] -/
def V58 (a0 : Option Addr) (a0n : Nat) (a0c : Nat) (w : World) (R : Value → World → Prop) : Prop :=
  pif (decide ((a0n : Int) < 2)) (
    R (.slice a0 a0n a0c) w) (
    lp (σ := Int × Unit) (fun s7 w1 k6 => match s7 with
      | (v5, _) =>
      pif (decide (v5 < (a0n : Int))) (
        ixA a0 a0n v5 1 fun p9 =>
        ldI .i64 (World.drew w1) p9 fun x10 =>
        ixA a0 a0n (IntKind.wrap .i64 (v5 - 1)) 1 fun p11 =>
        ldI .i64 (World.drew w1) p11 fun x12 =>
        pif (x10 == x12) (
          0 ≤ v5 ∧ v5 ≤ (a0n : Int) ∧
          lp (σ := Int × Int × Unit) (fun s18 w2 k17 => match s18 with
            | (v15, v16, _) =>
            pif (decide (v16 < (((a0n - (Int.toNat v5)) : Nat) : Int))) (
              jn (σ := Int × Unit) (fun k21 =>
                ixA (slA a0 a0c (Int.toNat v5) 1) (a0n - (Int.toNat v5)) v16 1 fun p23 =>
                ldI .i64 (World.drew w2) p23 fun x24 =>
                ixA (slA a0 a0c (Int.toNat v5) 1) (a0n - (Int.toNat v5)) (IntKind.wrap .i64 (v16 - 1)) 1 fun p25 =>
                ldI .i64 (World.drew w2) p25 fun x26 =>
                pif (x24 != x26) (
                  ixA (slA a0 a0c (Int.toNat v5) 1) (a0n - (Int.toNat v5)) v16 1 fun p28 =>
                  ldI .i64 (World.drew w2) p28 fun x29 =>
                  ixA a0 a0n v15 1 fun p30 =>
                  st (World.drew w2) (p30.add 0) (.int .i64 x29) fun w4 =>
                  k21 ((IntKind.wrap .i64 (v15 + 1)), ()) w4) (
                  k21 (v15, ()) (World.drew w2))) fun s22 w3 => match s22 with
              | (v20, _) =>
              k17 (v20, (IntKind.wrap .i64 (v16 + 1)), ()) w3) (
              0 ≤ v15 ∧ v15 ≤ (a0n : Int) ∧
              ∃ w5 : World, (Builtin.clear_ #[25] 0 #[.slice (slA a0 a0c (Int.toNat v15) 1) (a0n - (Int.toNat v15)) (a0c - (Int.toNat v15))]).run Try.prog w2 = .ok (.tuple #[]) w5 ∧
              0 ≤ v15 ∧ v15 ≤ (a0c : Int) ∧
              R (.slice (slA a0 a0c 0 1) ((Int.toNat v15) - 0) (a0c - 0)) w5)) (v5, 1, ()) (World.drew w1)) (
          k6 ((IntKind.wrap .i64 (v5 + 1)), ()) (World.drew w1))) (
        R (.slice a0 a0n a0c) w1)) (1, ()) w)
def An58 : An := .seq (.leaf) (.seq (.seq (.leaf) (.cond (.seq (.leaf) (.leaf)) (.leaf))) (.seq (.seq (.leaf) (.blk (.loop [(3, .one (.int .i64))] (.seq (.seq (.leaf) (.cond (.leaf) (.leaf))) (.seq (.blk (.seq (.draw [0, 0, 3, 7, 0, 0, 32, 112, 240, 511]) (.cond (.seq (.leaf) (.seq (.seq (.leaf) (.blk (.loop [(3, .one (.int .i64)), (5, .one (.int .i64))] (.seq (.seq (.leaf) (.cond (.leaf) (.leaf))) (.seq (.join [(3, .one (.int .i64))] (.blk (.seq (.draw [0, 0, 3, 7, 0, 0, 32, 112, 240, 511]) (.cond (.seq (.leaf) (.leaf)) (.leaf))))) (.leaf)))))) (.seq (.leaf) (.seq (.leaf) (.leaf))))) (.leaf)))) (.leaf)))))) (.seq (.leaf) (.leaf))))
theorem V58_eq (a0 : Option Addr) (a0n : Nat) (a0c : Nat) (w : World) (R : Value → World → Prop) : evF Try.prog Try.f58 An58 [.slice a0 a0n a0c] w R = V58 a0 a0n a0c w R := by kernel_rfl
theorem V58_calls (a0 : Option Addr) (a0n : Nat) (a0c : Nat) (w : World) (R : Value → World → Prop) (h : V58 a0 a0n a0c w R) : Calls Try.prog 58 #[.slice a0 a0n a0c] w fun e w' => ∃ v, e = .returned v ∧ R v w' :=
  calls_of_ev (args := [.slice a0 a0n a0c]) Try.func58 (Nat.le_of_ble_eq_true (by kernel_rfl)) (by rw [V58_eq]; exact h)
theorem ok58 : fnOk Try.prog 58 = true := by kernel_rfl

/-! depot/depotref01.merged -/
def V59 (a0 : Option Addr) (a0n : Nat) (a0c : Nat) (a1 : Option Addr) (a1n : Nat) (a1c : Nat) (w : World) (R : Value → World → Prop) : Prop :=
  lp (σ := (Option Addr × Nat × Nat) × Int × Int × Unit) (fun s9 w1 k8 => match s9 with
    | ((v5, v5n, v5c), v6, v7, _) =>
    pif (cond (decide (v6 < (a0n : Int))) true (decide (v7 < (a1n : Int)))) (
      gd (α := Addr) ((!(v7 == (a1n : Int))) && (decide (v6 < (a0n : Int)))) (fun k11 =>
        ixA a0 a0n v6 1 fun p12 =>
        k11 p12 (World.drew w1)) ⟨0, 0, none⟩ (World.drew w1) fun x13 _ =>
      gd (α := Int) ((!(v7 == (a1n : Int))) && (decide (v6 < (a0n : Int)))) (fun k14 =>
        ldI .i64 (World.drew w1) x13 fun x15 =>
        k14 x15 (World.drew w1)) 0 (World.drew w1) fun x16 _ =>
      gd (α := Addr) ((!(v7 == (a1n : Int))) && (decide (v6 < (a0n : Int)))) (fun k17 =>
        ixA a1 a1n v7 1 fun p18 =>
        k17 p18 (World.drew w1)) ⟨0, 0, none⟩ (World.drew w1) fun x19 _ =>
      gd (α := Int) ((!(v7 == (a1n : Int))) && (decide (v6 < (a0n : Int)))) (fun k20 =>
        ldI .i64 (World.drew w1) x19 fun x21 =>
        k20 x21 (World.drew w1)) 0 (World.drew w1) fun x22 _ =>
      gd (α := Int) ((!(v7 == (a1n : Int))) && (decide (v6 < (a0n : Int)))) (fun k23 =>
        cl Try.prog 64 [.int .i64 x16] (World.drew w1) fun e25 w2 => ∃ x24 : Int, e25 = Ending.returned (.int .i64 x24) ∧
        k23 x24 w2) 0 (World.drew w1) fun x26 w3 =>
      (((!(v7 == (a1n : Int))) && (decide (v6 < (a0n : Int)))) = true →
        ldI .i64 w3 x19 fun x27 =>
        ((.int .i64 x27 : Value) = .int .i64 x22)) ∧
      gd (α := Int) ((!(v7 == (a1n : Int))) && (decide (v6 < (a0n : Int)))) (fun k28 =>
        cl Try.prog 64 [.int .i64 x22] w3 fun e30 w4 => ∃ x29 : Int, e30 = Ending.returned (.int .i64 x29) ∧
        k28 x29 w4) 0 w3 fun x31 w5 =>
      pif (cond (v7 == (a1n : Int)) true (cond (decide (v6 < (a0n : Int))) (decide (x26 < x31)) false)) (
        ixA a0 a0n v6 1 fun p33 =>
        ldI .i64 w5 p33 fun x34 =>
        alc w5 [.int .i64 x34] 3 fun b35 w6 =>
        ∃ (x36 : Option Addr) (x36n x36c : Nat), ∃ w7 : World, (Builtin.append_ #[25, 25] 25 #[.slice v5 v5n v5c, .slice (some (⟨b35, 0, none⟩ : Addr)) 1 1]).run Try.prog w6 = .ok (.slice x36 x36n x36c) w7 ∧
        k8 ((x36, x36n, x36c), (IntKind.wrap .i64 (v6 + 1)), v7, ()) w7) (
        gd (α := Addr) (!(v6 == (a0n : Int))) (fun k38 =>
          ixA a1 a1n v7 1 fun p39 =>
          k38 p39 (World.drew w5)) ⟨0, 0, none⟩ (World.drew w5) fun x40 _ =>
        gd (α := Int) (!(v6 == (a0n : Int))) (fun k41 =>
          ldI .i64 (World.drew w5) x40 fun x42 =>
          k41 x42 (World.drew w5)) 0 (World.drew w5) fun x43 _ =>
        gd (α := Addr) (!(v6 == (a0n : Int))) (fun k44 =>
          ixA a0 a0n v6 1 fun p45 =>
          k44 p45 (World.drew w5)) ⟨0, 0, none⟩ (World.drew w5) fun x46 _ =>
        gd (α := Int) (!(v6 == (a0n : Int))) (fun k47 =>
          ldI .i64 (World.drew w5) x46 fun x48 =>
          k47 x48 (World.drew w5)) 0 (World.drew w5) fun x49 _ =>
        gd (α := Int) (!(v6 == (a0n : Int))) (fun k50 =>
          cl Try.prog 64 [.int .i64 x43] (World.drew w5) fun e52 w8 => ∃ x51 : Int, e52 = Ending.returned (.int .i64 x51) ∧
          k50 x51 w8) 0 (World.drew w5) fun x53 w9 =>
        ((!(v6 == (a0n : Int))) = true →
          ldI .i64 w9 x46 fun x54 =>
          ((.int .i64 x54 : Value) = .int .i64 x49)) ∧
        gd (α := Int) (!(v6 == (a0n : Int))) (fun k55 =>
          cl Try.prog 64 [.int .i64 x49] w9 fun e57 w10 => ∃ x56 : Int, e57 = Ending.returned (.int .i64 x56) ∧
          k55 x56 w10) 0 w9 fun x58 w11 =>
        pif (cond (v6 == (a0n : Int)) true (decide (x53 < x58))) (
          ixA a1 a1n v7 1 fun p60 =>
          ldI .i64 w11 p60 fun x61 =>
          alc w11 [.int .i64 x61] 3 fun b62 w12 =>
          ∃ (x63 : Option Addr) (x63n x63c : Nat), ∃ w13 : World, (Builtin.append_ #[25, 25] 25 #[.slice v5 v5n v5c, .slice (some (⟨b62, 0, none⟩ : Addr)) 1 1]).run Try.prog w12 = .ok (.slice x63 x63n x63c) w13 ∧
          k8 ((x63, x63n, x63c), v6, (IntKind.wrap .i64 (v7 + 1)), ()) w13) (
          ixA a0 a0n v6 1 fun p66 =>
          ldI .i64 w11 p66 fun x67 =>
          alc w11 [.int .i64 x67] 3 fun b68 w14 =>
          ∃ (x69 : Option Addr) (x69n x69c : Nat), ∃ w15 : World, (Builtin.append_ #[25, 25] 25 #[.slice v5 v5n v5c, .slice (some (⟨b68, 0, none⟩ : Addr)) 1 1]).run Try.prog w14 = .ok (.slice x69 x69n x69c) w15 ∧
          k8 ((x69, x69n, x69c), (IntKind.wrap .i64 (v6 + 1)), (IntKind.wrap .i64 (v7 + 1)), ()) w15))) (
      R (.slice v5 v5n v5c) w1)) ((none, 0, 0), 0, 0, ()) w
def An59 : An := .seq (.leaf) (.seq (.leaf) (.seq (.leaf) (.seq (.leaf) (.seq (.blk (.loop [(5, .one (.slc)), (6, .one (.int .i64)), (7, .one (.int .i64))] (.seq (.seq (.leaf) (.cond (.leaf) (.leaf))) (.blk (.blk (.seq (.draw [0, 0, 2, 7, 15, 31, 31, 95, 255, 511, 1023, 1023, 4095, 8191, 16383, 1023, 1023, 99327, 230399, 524287, 1048575, 2097151, 4194303, 8388607]) (.cond (.seq (.leaf) (.leaf)) (.seq (.draw [0, 0, 2, 7, 15, 31, 31, 127, 255, 511, 31, 31, 3103, 7199, 16383, 32767, 65535, 131071]) (.cond (.seq (.leaf) (.leaf)) (.seq (.leaf) (.seq (.leaf) (.leaf)))))))))))) (.seq (.leaf) (.leaf))))))
theorem V59_eq (a0 : Option Addr) (a0n : Nat) (a0c : Nat) (a1 : Option Addr) (a1n : Nat) (a1c : Nat) (w : World) (R : Value → World → Prop) : evF Try.prog Try.f59 An59 [.slice a0 a0n a0c, .slice a1 a1n a1c] w R = V59 a0 a0n a0c a1 a1n a1c w R := by kernel_rfl
theorem V59_calls (a0 : Option Addr) (a0n : Nat) (a0c : Nat) (a1 : Option Addr) (a1n : Nat) (a1c : Nat) (w : World) (R : Value → World → Prop) (h : V59 a0 a0n a0c a1 a1n a1c w R) : Calls Try.prog 59 #[.slice a0 a0n a0c, .slice a1 a1n a1c] w fun e w' => ∃ v, e = .returned v ∧ R v w' :=
  calls_of_ev (args := [.slice a0 a0n a0c, .slice a1 a1n a1c]) Try.func59 (Nat.le_of_ble_eq_true (by kernel_rfl)) (by rw [V59_eq]; exact h)
theorem ok59 : fnOk Try.prog 59 = true := by kernel_rfl

/-! depot/lits.Index -/
def V63 (a0 : Int) (w : World) (R : Value → World → Prop) : Prop :=
  cl Try.prog 33 [.int .i64 a0] w fun e4 w1 => ∃ x3 : Bool, e4 = Ending.returned (.bool x3) ∧
  pif (!x3) (
    R (.int .i64 (-1)) w1) (
    pif (decide (a0 < 0)) (
      R (.int .i64 (IntKind.wrap .i64 ((IntKind.wrap .i64 (2 * (IntKind.wrap .i64 (0 - a0)))) - 1))) w1) (
      R (.int .i64 (IntKind.wrap .i64 ((IntKind.wrap .i64 (2 * a0)) - 2))) w1))
def An63 : An := .seq (.leaf) (.seq (.blk (.seq (.leaf) (.cond (.seq (.leaf) (.leaf)) (.seq (.leaf) (.cond (.seq (.leaf) (.leaf)) (.leaf)))))) (.seq (.leaf) (.leaf)))
theorem V63_eq (a0 : Int) (w : World) (R : Value → World → Prop) : evF Try.prog Try.f63 An63 [.int .i64 a0] w R = V63 a0 w R := by kernel_rfl
theorem V63_calls (a0 : Int) (w : World) (R : Value → World → Prop) (h : V63 a0 w R) : Calls Try.prog 63 #[.int .i64 a0] w fun e w' => ∃ v, e = .returned v ∧ R v w' :=
  calls_of_ev (args := [.int .i64 a0]) Try.func63 (Nat.le_of_ble_eq_true (by kernel_rfl)) (by rw [V63_eq]; exact h)
theorem ok63 : fnOk Try.prog 63 = true := by kernel_rfl

/-! depot/depotref01.Index -/
def V64 (a0 : Int) (w : World) (R : Value → World → Prop) : Prop :=
  cl Try.prog 35 [.int .i64 a0] w fun e4 w1 => ∃ x3 : Bool, e4 = Ending.returned (.bool x3) ∧
  pif (!x3) (
    R (.int .i64 (-1)) w1) (
    pif (decide (a0 < 0)) (
      R (.int .i64 (IntKind.wrap .i64 ((IntKind.wrap .i64 ((-2) * a0)) - 1))) w1) (
      R (.int .i64 (IntKind.wrap .i64 ((IntKind.wrap .i64 (2 * a0)) - 2))) w1))
def An64 : An := .seq (.leaf) (.seq (.seq (.leaf) (.cond (.seq (.leaf) (.leaf)) (.leaf))) (.seq (.seq (.leaf) (.cond (.seq (.leaf) (.leaf)) (.leaf))) (.seq (.leaf) (.leaf))))
theorem V64_eq (a0 : Int) (w : World) (R : Value → World → Prop) : evF Try.prog Try.f64 An64 [.int .i64 a0] w R = V64 a0 w R := by kernel_rfl
theorem V64_calls (a0 : Int) (w : World) (R : Value → World → Prop) (h : V64 a0 w R) : Calls Try.prog 64 #[.int .i64 a0] w fun e w' => ∃ v, e = .returned v ∧ R v w' :=
  calls_of_ev (args := [.int .i64 a0]) Try.func64 (Nat.le_of_ble_eq_true (by kernel_rfl)) (by rw [V64_eq]; exact h)
theorem ok64 : fnOk Try.prog 64 = true := by kernel_rfl

end Go.Proofs.Ytlbpllpomdjooaa.T
