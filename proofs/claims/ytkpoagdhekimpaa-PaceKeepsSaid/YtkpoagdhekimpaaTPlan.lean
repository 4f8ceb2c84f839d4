/- The conditions under which the functions printed here return, as propositions over typed values; each is the machine's own, by the generator's theorem. -/
import Derived.Test.YtkpoagdhekimpaaProg
import Derived.Test.YtkpoagdhekimpaaVcX
set_option linter.unusedVariables false
set_option maxRecDepth 100000
namespace Go.Proofs.Ytkpoagdhekimpaa.T
open Go Go.Proofs.Ytkpoagdhekimpaa.Vc
/-! depot/pace.Seq -/
def V17  (w : World) (R : Value → World → Prop) : Prop :=
  R (.func (.func 27) #[] #[]) w
def An17 : An := .seq (.leaf) (.seq (.leaf) (.leaf))
theorem V17_eq  (w : World) (R : Value → World → Prop) : evF Try.prog Try.f17 An17 [] w R = V17  w R := by kernel_rfl
theorem V17_calls  (w : World) (R : Value → World → Prop) (h : V17  w R) : Calls Try.prog 17 #[] w fun e w' => ∃ v, e = .returned v ∧ R v w' :=
  calls_of_ev (args := []) Try.func17 (Nat.le_of_ble_eq_true (by kernel_rfl)) (by rw [V17_eq]; exact h)
theorem ok17 : fnOk Try.prog 17 = true := by kernel_rfl

/-! depot/pace.Plan -/
def V21 (a0_0 : Int) (a0_1 : Int) (a0_2 : Int) (a0_3 : Nat) (a0_4 : Int) (a0_5 : Int) (a1 : Int) (w : World) (R : Value → World → Prop) : Prop :=
  alc w [.int .i64 a0_0, .int .i64 a0_1, .int .i64 a0_2, .float .f64 a0_3, .int .i64 a0_4, .int .i64 a0_5] 24 fun b2 w1 =>
  alc w1 [.int .i64 a1] 3 fun b3 w2 =>
  ldI .i64 w2 ((⟨b2, 0, none⟩ : Addr).add 0) fun x5 =>
  ldI .i64 w2 ((⟨b2, 0, none⟩ : Addr).add 1) fun x6 =>
  ldI .i64 w2 ((⟨b2, 0, none⟩ : Addr).add 2) fun x7 =>
  ldF .f64 w2 ((⟨b2, 0, none⟩ : Addr).add 3) fun x8 =>
  ldI .i64 w2 ((⟨b2, 0, none⟩ : Addr).add 4) fun x9 =>
  ldI .i64 w2 ((⟨b2, 0, none⟩ : Addr).add 5) fun x10 =>
  cl Try.prog 18 [.agg #[.int .i64 x5, .int .i64 x6, .int .i64 x7, .float .f64 x8, .int .i64 x9, .int .i64 x10]] w2 fun e15 w3 => ∃ x11 : Value, ∃ x12 : Value, ∃ x13 : Value, ∃ x14 : Int, e15 = Ending.returned (.tuple #[.agg #[x11, x12, x13], .int .i64 x14]) ∧
  alc w3 [.nilFunc, .nilFunc, .nilFunc] 34 fun b16 w4 =>
  st w4 ((⟨b16, 0, none⟩ : Addr).add 0) (x11) fun w5 =>
  st w5 ((⟨b16, 0, none⟩ : Addr).add 1) (x12) fun w6 =>
  st w6 ((⟨b16, 0, none⟩ : Addr).add 2) (x13) fun w7 =>
  pif (x14 != 0) (
    R (.tuple #[.slice none 0 0, .int .i64 x14]) w7) (
    ldI .i64 w7 (⟨b3, 0, none⟩ : Addr) fun x20 =>
    gd (α := Int) (!(decide (x20 < 0))) (fun k21 =>
      ldI .i64 w7 (⟨b3, 0, none⟩ : Addr) fun x22 =>
      k21 x22 w7) 0 w7 fun x23 w8 =>
    pif (cond (decide (x20 < 0)) true (decide (x23 > 1048576))) (
      R (.tuple #[.slice none 0 0, .int .i64 2]) w8) (
      alc w8 [.slice none 0 0] 43 fun b26 w9 =>
      alc w9 [.int .i64 0] 3 fun b28 w10 =>
      st w10 ((⟨b28, 0, none⟩ : Addr).add 0) (.int .i64 0) fun w11 =>
      cl Try.prog 17 [] w11 fun e31 w12 => ∃ x30 : Value, e31 = Ending.returned (x30) ∧
      ∃ (g32 : FuncId) (g32b : Array Value), (x30 : Value) = .func (.func g32) #[] g32b ∧ fnOk Try.prog g32 = true ∧ 27 < 56 ∧
      rgs Try.prog g32 g32b w12 (fun f33 J34 J35 J36 => ∀ (k37 : Nat) (w13 : World), J34 k37 w13 →
        Keep (Oth w12.heap.size) w13 w13 ∧ ∀ w14 : World, Keep (Own2 w12.heap.size) w13 w14 →
        ldI .i64 w14 ((⟨b2, 0, none⟩ : Addr).add 0) fun x40 =>
        ldI .i64 w14 (⟨b3, 0, none⟩ : Addr) fun x42 =>
        ldI .i64 w14 (⟨b28, 0, none⟩ : Addr) fun x43 =>
        pif (decide ((IntKind.wrap .i64 (x40 * (f33 k37))) > (IntKind.wrap .i64 (x42 - x43)))) (
          Keep (Oth w12.heap.size) w14 w14 ∧ J36 0 w14) (
          ldI .i64 w14 (⟨b28, 0, none⟩ : Addr) fun x45 =>
          st w14 ((⟨b28, 0, none⟩ : Addr).add 0) (.int .i64 (IntKind.wrap .i64 (x45 + (IntKind.wrap .i64 (x40 * (f33 k37)))))) fun w15 =>
          lp (σ := Int × Unit) (fun s49 w16 k48 => match s49 with
            | (v47, _) =>
            pif (decide (v47 < (IntKind.wrap .i64 (x40 * (f33 k37))))) (
              ldV w16 ((⟨b16, 0, none⟩ : Addr).add 0) fun x52 =>
              clF Try.prog (x52) [] w16 fun e53 w17 => e53 = Ending.returned (.tuple #[]) ∧
              k48 ((IntKind.wrap .i64 (v47 + 1)), ()) w17) (
              ldC (World.drew w16) (⟨b26, 0, none⟩ : Addr) fun x55 x55n x55c =>
              ldI .i64 (World.drew w16) (⟨b28, 0, none⟩ : Addr) fun x56 =>
              ldV (World.drew w16) ((⟨b16, 0, none⟩ : Addr).add 2) fun x57 =>
              clF Try.prog (x57) [] (World.drew w16) fun e59 w18 => ∃ x58 : Bool, e59 = Ending.returned (.bool x58) ∧
              (
                ldI .i64 w18 (⟨b28, 0, none⟩ : Addr) fun x60 =>
                ((.int .i64 x60 : Value) = .int .i64 x56)) ∧
              (
                ldC w18 (⟨b26, 0, none⟩ : Addr) fun x61 x61n x61c =>
                ((.slice x61 x61n x61c : Value) = .slice x55 x55n x55c)) ∧
              alc w18 [.int .i64 x56, .bool x58] 50 fun b62 w19 =>
              (
                ldC w19 (⟨b26, 0, none⟩ : Addr) fun x63 x63n x63c =>
                ((.slice x63 x63n x63c : Value) = .slice x55 x55n x55c)) ∧
              ∃ (x64 : Option Addr) (x64n x64c : Nat), ∃ w20 : World, (Builtin.append_ #[43, 43] 43 #[.slice x55 x55n x55c, .slice (some (⟨b62, 0, none⟩ : Addr)) 1 1]).run Try.prog w19 = .ok (.slice x64 x64n x64c) w20 ∧
              st w20 ((⟨b26, 0, none⟩ : Addr).add 0) (.slice x64 x64n x64c) fun w21 =>
              Keep (Oth w12.heap.size) w14 w21 ∧ J34 (k37 + 1) w21)) (0, ()) w15)) fun J35 J36 =>
      (∀ w22 : World, J35 w22 → w22.heap[w12.heap.size]? = some (.deferred (some [])) →
        w22.heap[w12.heap.size]? = some (.deferred (some [])) ∧
        R (.tuple #[.slice none 0 0, .int .i64 0]) (World.putObj w22 w12.heap.size (.deferred none))) ∧
      (∀ w23 : World, J36 0 w23 → w23.heap[w12.heap.size]? = some (.deferred (some [])) →
        ldC w23 (⟨b26, 0, none⟩ : Addr) fun x66 x66n x66c =>
        w23.heap[w12.heap.size]? = some (.deferred (some [])) ∧
        R (.tuple #[.slice x66 x66n x66c, .int .i64 0]) (World.putObj w23 w12.heap.size (.deferred none))) ∧
      True))
def An21 : An2 := .seq (.base (.leaf)) (.seq (.base (.leaf)) (.seq (.base (.seq (.leaf) (.cond (.seq (.leaf) (.leaf)) (.leaf)))) (.seq (.base (.seq (.leaf) (.cond (.seq (.leaf) (.leaf)) (.leaf)))) (.seq (.base (.leaf)) (.seq (.base (.leaf)) (.seq (.seq (.base (.leaf)) (.blk (.rng (.leaf) (.blk (.seq (.leaf) (.seq (.seq (.leaf) (.cond (.leaf) (.leaf))) (.seq (.leaf) (.seq (.seq (.leaf) (.blk (.loop [(41, .one (.int .i64))] (.seq (.leaf) (.seq (.cond (.leaf) (.leaf)) (.seq (.blk (.leaf)) (.leaf))))))) (.draw [0, 0, 0, 4, 12, 30, 62, 127, 255])))))) [0]))) (.base (.seq (.leaf) (.leaf)))))))))
theorem V21_eq (a0_0 : Int) (a0_1 : Int) (a0_2 : Int) (a0_3 : Nat) (a0_4 : Int) (a0_5 : Int) (a1 : Int) (w : World) (R : Value → World → Prop) : evF2 Try.prog Try.f21 An21 [.agg #[.int .i64 a0_0, .int .i64 a0_1, .int .i64 a0_2, .float .f64 a0_3, .int .i64 a0_4, .int .i64 a0_5], .int .i64 a1] w R = V21 a0_0 a0_1 a0_2 a0_3 a0_4 a0_5 a1 w R := by kernel_rfl
theorem V21_calls (a0_0 : Int) (a0_1 : Int) (a0_2 : Int) (a0_3 : Nat) (a0_4 : Int) (a0_5 : Int) (a1 : Int) (w : World) (R : Value → World → Prop) (h : V21 a0_0 a0_1 a0_2 a0_3 a0_4 a0_5 a1 w R) : Calls Try.prog 21 #[.agg #[.int .i64 a0_0, .int .i64 a0_1, .int .i64 a0_2, .float .f64 a0_3, .int .i64 a0_4, .int .i64 a0_5], .int .i64 a1] w fun e w' => ∃ v, e = .returned v ∧ R v w' :=
  calls_of_ev2 (args := [.agg #[.int .i64 a0_0, .int .i64 a0_1, .int .i64 a0_2, .float .f64 a0_3, .int .i64 a0_4, .int .i64 a0_5], .int .i64 a1]) Try.func21 (Nat.le_of_ble_eq_true (by kernel_rfl)) (by rw [V21_eq]; exact h)
theorem ok21 : fnOk Try.prog 21 = true := by kernel_rfl

end Go.Proofs.Ytkpoagdhekimpaa.T
