/- The conditions under which the functions printed here return, as propositions over typed values; each is the machine's own, by the generator's theorem. -/
import Derived.Test.YtkpoagdhekimpaaProg
import Derived.Test.YtkpoagdhekimpaaVcT
set_option linter.unusedVariables false
set_option maxRecDepth 100000
namespace Go.Proofs.Ytkpoagdhekimpaa.T
open Go Go.Proofs.Ytkpoagdhekimpaa.Vc
/-! depot/depotlaw13.PaceSeq -/
def V6 (a0 : Int) (w : World) (R : Value → World → Prop) : Prop :=
  alc w [.int .i64 a0] 3 fun b2 w1 =>
  alc w1 [.bool false] 4 fun b3 w2 =>
  ldI .i64 w2 (⟨b2, 0, none⟩ : Addr) fun x5 =>
  gd (α := Int) (!(decide (x5 < 0))) (fun k6 =>
    ldI .i64 w2 (⟨b2, 0, none⟩ : Addr) fun x7 =>
    k6 x7 w2) 0 w2 fun x8 w3 =>
  pif (cond (decide (x5 < 0)) true (decide (x8 > 5000))) (
    st w3 ((⟨b2, 0, none⟩ : Addr).add 0) (.int .i64 5000) fun w4 =>
    cl Try.prog 17 [] w4 fun e12 w5 => ∃ x11 : Value, e12 = Ending.returned (x11) ∧
    alc w5 [.nilFunc] 29 fun b13 w6 =>
    st w6 ((⟨b13, 0, none⟩ : Addr).add 0) (x11) fun w7 =>
    ldV w7 (⟨b13, 0, none⟩ : Addr) fun x15 =>
    isFn (x15) = true ∧
    pif (isNilF (x15)) (
      st w7 ((⟨b3, 0, none⟩ : Addr).add 0) (.bool false) fun w8 =>
      ldB w8 (⟨b3, 0, none⟩ : Addr) fun x17 =>
      R (.bool x17) w8) (
      alc w7 [.int .i64 0] 3 fun b19 w9 =>
      st w9 ((⟨b19, 0, none⟩ : Addr).add 0) (.int .i64 0) fun w10 =>
      ldV w10 (⟨b13, 0, none⟩ : Addr) fun x21 =>
      ∃ (g22 : FuncId) (g22b : Array Value), (x21 : Value) = .func (.func g22) #[] g22b ∧ fnOk Try.prog g22 = true ∧ 18 < 47 ∧
      rgs Try.prog g22 g22b w10 (fun f23 J24 J25 J26 => ∀ (k27 : Nat) (w11 : World), J24 k27 w11 →
        Keep (Oth w10.heap.size) w11 w11 ∧ ∀ w12 : World, Keep (Own2 w10.heap.size) w11 w12 → (∃ r, w12.heap[w10.heap.size + 1]? = some (.loop r)) →
        ldI .i64 w12 (⟨b19, 0, none⟩ : Addr) fun x30 =>
        st w12 ((⟨b19, 0, none⟩ : Addr).add 0) (.int .i64 (IntKind.wrap .i64 (x30 + 1))) fun w13 =>
        ldI .i64 w13 (⟨b19, 0, none⟩ : Addr) fun x32 =>
        cl Try.prog 16 [.int .i64 x32] w13 fun e34 w14 => ∃ x33 : Int, e34 = Ending.returned (.int .i64 x33) ∧
        pif ((f23 k27) != x33) (
          st w14 ((⟨b3, 0, none⟩ : Addr).add 0) (.bool false) fun w15 =>
          Keep (Oth w10.heap.size) w12 w15 ∧ J25 w15) (
          ldI .i64 w14 (⟨b19, 0, none⟩ : Addr) fun x37 =>
          pif ((Int.tmod x37 1000) == 7) (
            alc w14 [.int .i64 0] 3 fun b39 w16 =>
            st w16 ((⟨b39, 0, none⟩ : Addr).add 0) (.int .i64 0) fun w17 =>
            ldV w17 (⟨b13, 0, none⟩ : Addr) fun x41 =>
            ∃ (g42 : FuncId) (g42b : Array Value), (x41 : Value) = .func (.func g42) #[] g42b ∧ fnOk Try.prog g42 = true ∧ 29 < 47 ∧
            rgs1 Try.prog g42 g42b (w10.heap.size + 1) w17 (fun f43 J44 J45 J46 => ∀ (k47 : Nat) (w18 : World), J44 k47 w18 →
              Keep (Oth1 w17.heap.size) w18 w18 ∧ ∀ w19 : World, Keep (Vc.One w17.heap.size) w18 w19 →
              ldI .i64 w19 (⟨b39, 0, none⟩ : Addr) fun x50 =>
              st w19 ((⟨b39, 0, none⟩ : Addr).add 0) (.int .i64 (IntKind.wrap .i64 (x50 + 1))) fun w20 =>
              ldI .i64 w20 (⟨b39, 0, none⟩ : Addr) fun x52 =>
              cl Try.prog 16 [.int .i64 x52] w20 fun e54 w21 => ∃ x53 : Int, e54 = Ending.returned (.int .i64 x53) ∧
              pif ((f43 k47) != x53) (
                st w21 ((⟨b3, 0, none⟩ : Addr).add 0) (.bool false) fun w22 =>
                Keep (Oth1 w17.heap.size) w19 w22 ∧ J45 w22) (
                ldI .i64 w21 (⟨b39, 0, none⟩ : Addr) fun x57 =>
                pif (x57 == 9) (
                  Keep (Oth1 w17.heap.size) w19 w21 ∧ J46 2 w21) (
                  Keep (Oth1 w17.heap.size) w19 w21 ∧ J44 (k47 + 1) w21))) fun J45 J46 =>
            (∀ w23 : World, J45 w23 →
              Keep (Oth w10.heap.size) w12 w23 ∧ J25 w23) ∧
            (∀ w24 : World, J46 2 w24 →
              ldI .i64 w24 (⟨b39, 0, none⟩ : Addr) fun x59 =>
              pif (x59 != 9) (
                st w24 ((⟨b3, 0, none⟩ : Addr).add 0) (.bool false) fun w25 =>
                Keep (Oth w10.heap.size) w12 w25 ∧ J25 w25) (
                ldI .i64 w24 (⟨b19, 0, none⟩ : Addr) fun x62 =>
                ldI .i64 w24 (⟨b2, 0, none⟩ : Addr) fun x63 =>
                pif (decide (x62 > x63)) (
                  Keep (Oth w10.heap.size) w12 w24 ∧ J26 0 w24) (
                  Keep (Oth w10.heap.size) w12 w24 ∧ J24 (k27 + 1) w24))) ∧
            True) (
            ldI .i64 w14 (⟨b19, 0, none⟩ : Addr) fun x65 =>
            ldI .i64 w14 (⟨b2, 0, none⟩ : Addr) fun x66 =>
            pif (decide (x65 > x66)) (
              Keep (Oth w10.heap.size) w12 w14 ∧ J26 0 w14) (
              Keep (Oth w10.heap.size) w12 w14 ∧ J24 (k27 + 1) w14)))) fun J25 J26 =>
      (∀ w26 : World, J25 w26 → w26.heap[w10.heap.size]? = some (.deferred (some [])) →
        w26.heap[w10.heap.size]? = some (.deferred (some [])) ∧
        ldB (World.putObj w26 w10.heap.size (.deferred none)) (⟨b3, 0, none⟩ : Addr) fun x67 =>
        R (.bool x67) (World.putObj w26 w10.heap.size (.deferred none))) ∧
      (∀ w27 : World, J26 0 w27 → w27.heap[w10.heap.size]? = some (.deferred (some [])) →
        ldI .i64 w27 (⟨b19, 0, none⟩ : Addr) fun x69 =>
        ldI .i64 w27 (⟨b2, 0, none⟩ : Addr) fun x70 =>
        st w27 ((⟨b3, 0, none⟩ : Addr).add 0) (.bool (x69 == (IntKind.wrap .i64 (x70 + 1)))) fun w28 =>
        w28.heap[w10.heap.size]? = some (.deferred (some [])) ∧
        ldB (World.putObj w28 w10.heap.size (.deferred none)) (⟨b3, 0, none⟩ : Addr) fun x71 =>
        R (.bool x71) (World.putObj w28 w10.heap.size (.deferred none))) ∧
      True)) (
    cl Try.prog 17 [] w3 fun e74 w29 => ∃ x73 : Value, e74 = Ending.returned (x73) ∧
    alc w29 [.nilFunc] 29 fun b75 w30 =>
    st w30 ((⟨b75, 0, none⟩ : Addr).add 0) (x73) fun w31 =>
    ldV w31 (⟨b75, 0, none⟩ : Addr) fun x77 =>
    isFn (x77) = true ∧
    pif (isNilF (x77)) (
      st w31 ((⟨b3, 0, none⟩ : Addr).add 0) (.bool false) fun w32 =>
      ldB w32 (⟨b3, 0, none⟩ : Addr) fun x79 =>
      R (.bool x79) w32) (
      alc w31 [.int .i64 0] 3 fun b81 w33 =>
      st w33 ((⟨b81, 0, none⟩ : Addr).add 0) (.int .i64 0) fun w34 =>
      ldV w34 (⟨b75, 0, none⟩ : Addr) fun x83 =>
      ∃ (g84 : FuncId) (g84b : Array Value), (x83 : Value) = .func (.func g84) #[] g84b ∧ fnOk Try.prog g84 = true ∧ 18 < 47 ∧
      rgs Try.prog g84 g84b w34 (fun f85 J86 J87 J88 => ∀ (k89 : Nat) (w35 : World), J86 k89 w35 →
        Keep (Oth w34.heap.size) w35 w35 ∧ ∀ w36 : World, Keep (Own2 w34.heap.size) w35 w36 → (∃ r, w36.heap[w34.heap.size + 1]? = some (.loop r)) →
        ldI .i64 w36 (⟨b81, 0, none⟩ : Addr) fun x92 =>
        st w36 ((⟨b81, 0, none⟩ : Addr).add 0) (.int .i64 (IntKind.wrap .i64 (x92 + 1))) fun w37 =>
        ldI .i64 w37 (⟨b81, 0, none⟩ : Addr) fun x94 =>
        cl Try.prog 16 [.int .i64 x94] w37 fun e96 w38 => ∃ x95 : Int, e96 = Ending.returned (.int .i64 x95) ∧
        pif ((f85 k89) != x95) (
          st w38 ((⟨b3, 0, none⟩ : Addr).add 0) (.bool false) fun w39 =>
          Keep (Oth w34.heap.size) w36 w39 ∧ J87 w39) (
          ldI .i64 w38 (⟨b81, 0, none⟩ : Addr) fun x99 =>
          pif ((Int.tmod x99 1000) == 7) (
            alc w38 [.int .i64 0] 3 fun b101 w40 =>
            st w40 ((⟨b101, 0, none⟩ : Addr).add 0) (.int .i64 0) fun w41 =>
            ldV w41 (⟨b75, 0, none⟩ : Addr) fun x103 =>
            ∃ (g104 : FuncId) (g104b : Array Value), (x103 : Value) = .func (.func g104) #[] g104b ∧ fnOk Try.prog g104 = true ∧ 29 < 47 ∧
            rgs1 Try.prog g104 g104b (w34.heap.size + 1) w41 (fun f105 J106 J107 J108 => ∀ (k109 : Nat) (w42 : World), J106 k109 w42 →
              Keep (Oth1 w41.heap.size) w42 w42 ∧ ∀ w43 : World, Keep (Vc.One w41.heap.size) w42 w43 →
              ldI .i64 w43 (⟨b101, 0, none⟩ : Addr) fun x112 =>
              st w43 ((⟨b101, 0, none⟩ : Addr).add 0) (.int .i64 (IntKind.wrap .i64 (x112 + 1))) fun w44 =>
              ldI .i64 w44 (⟨b101, 0, none⟩ : Addr) fun x114 =>
              cl Try.prog 16 [.int .i64 x114] w44 fun e116 w45 => ∃ x115 : Int, e116 = Ending.returned (.int .i64 x115) ∧
              pif ((f105 k109) != x115) (
                st w45 ((⟨b3, 0, none⟩ : Addr).add 0) (.bool false) fun w46 =>
                Keep (Oth1 w41.heap.size) w43 w46 ∧ J107 w46) (
                ldI .i64 w45 (⟨b101, 0, none⟩ : Addr) fun x119 =>
                pif (x119 == 9) (
                  Keep (Oth1 w41.heap.size) w43 w45 ∧ J108 2 w45) (
                  Keep (Oth1 w41.heap.size) w43 w45 ∧ J106 (k109 + 1) w45))) fun J107 J108 =>
            (∀ w47 : World, J107 w47 →
              Keep (Oth w34.heap.size) w36 w47 ∧ J87 w47) ∧
            (∀ w48 : World, J108 2 w48 →
              ldI .i64 w48 (⟨b101, 0, none⟩ : Addr) fun x121 =>
              pif (x121 != 9) (
                st w48 ((⟨b3, 0, none⟩ : Addr).add 0) (.bool false) fun w49 =>
                Keep (Oth w34.heap.size) w36 w49 ∧ J87 w49) (
                ldI .i64 w48 (⟨b81, 0, none⟩ : Addr) fun x124 =>
                ldI .i64 w48 (⟨b2, 0, none⟩ : Addr) fun x125 =>
                pif (decide (x124 > x125)) (
                  Keep (Oth w34.heap.size) w36 w48 ∧ J88 0 w48) (
                  Keep (Oth w34.heap.size) w36 w48 ∧ J86 (k89 + 1) w48))) ∧
            True) (
            ldI .i64 w38 (⟨b81, 0, none⟩ : Addr) fun x127 =>
            ldI .i64 w38 (⟨b2, 0, none⟩ : Addr) fun x128 =>
            pif (decide (x127 > x128)) (
              Keep (Oth w34.heap.size) w36 w38 ∧ J88 0 w38) (
              Keep (Oth w34.heap.size) w36 w38 ∧ J86 (k89 + 1) w38)))) fun J87 J88 =>
      (∀ w50 : World, J87 w50 → w50.heap[w34.heap.size]? = some (.deferred (some [])) →
        w50.heap[w34.heap.size]? = some (.deferred (some [])) ∧
        ldB (World.putObj w50 w34.heap.size (.deferred none)) (⟨b3, 0, none⟩ : Addr) fun x129 =>
        R (.bool x129) (World.putObj w50 w34.heap.size (.deferred none))) ∧
      (∀ w51 : World, J88 0 w51 → w51.heap[w34.heap.size]? = some (.deferred (some [])) →
        ldI .i64 w51 (⟨b81, 0, none⟩ : Addr) fun x131 =>
        ldI .i64 w51 (⟨b2, 0, none⟩ : Addr) fun x132 =>
        st w51 ((⟨b3, 0, none⟩ : Addr).add 0) (.bool (x131 == (IntKind.wrap .i64 (x132 + 1)))) fun w52 =>
        w52.heap[w34.heap.size]? = some (.deferred (some [])) ∧
        ldB (World.putObj w52 w34.heap.size (.deferred none)) (⟨b3, 0, none⟩ : Addr) fun x133 =>
        R (.bool x133) (World.putObj w52 w34.heap.size (.deferred none))) ∧
      True))
def An6 : An3 := .seq (.base (.leaf)) (.seq (.base (.seq (.leaf) (.cond (.leaf) (.leaf)))) (.seq (.base (.leaf)) (.seq (.base (.seq (.leaf) (.cond (.seq (.leaf) (.leaf)) (.leaf)))) (.seq (.base (.leaf)) (.seq (.seq (.base (.leaf)) (.blk (.rng (.leaf) (.blk (.seq (.base (.leaf)) (.seq (.base (.seq (.leaf) (.cond (.seq (.leaf) (.leaf)) (.leaf)))) (.seq (.seq (.base (.leaf)) (.cond (.seq (.base (.leaf)) (.seq (.seq (.base (.leaf)) (.blk (.rng (.leaf) (.blk (.seq (.leaf) (.seq (.seq (.leaf) (.cond (.seq (.leaf) (.leaf)) (.leaf))) (.seq (.leaf) (.cond (.leaf) (.leaf)))))) [2]))) (.base (.seq (.leaf) (.cond (.seq (.leaf) (.leaf)) (.leaf)))))) (.base (.leaf)))) (.base (.seq (.leaf) (.cond (.leaf) (.leaf)))))))) [0]))) (.base (.seq (.leaf) (.leaf))))))))
theorem V6_eq (a0 : Int) (w : World) (R : Value → World → Prop) : evF3 Try.prog Try.f6 An6 [.int .i64 a0] w R = V6 a0 w R := by kernel_rfl
theorem V6_calls (a0 : Int) (w : World) (R : Value → World → Prop) (h : V6 a0 w R) : Calls Try.prog 6 #[.int .i64 a0] w fun e w' => ∃ v, e = .returned v ∧ R v w' :=
  calls_of_ev3 (args := [.int .i64 a0]) Try.func6 (Nat.le_of_ble_eq_true (by kernel_rfl)) (by rw [V6_eq]; exact h)
theorem ok6 : fnOk Try.prog 6 = true := by kernel_rfl

end Go.Proofs.Ytkpoagdhekimpaa.T
