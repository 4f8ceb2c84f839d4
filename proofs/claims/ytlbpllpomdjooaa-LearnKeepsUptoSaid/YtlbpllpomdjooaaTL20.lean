/- The conditions under which the functions printed here return, as propositions over typed values; each is the machine's own, by the generator's theorem. -/
import Derived.Test.YtlbpllpomdjooaaProg
import Derived.Test.YtlbpllpomdjooaaVcG
set_option linter.unusedVariables false
set_option maxRecDepth 100000
namespace Go.Proofs.Ytlbpllpomdjooaa.T
open Go Go.Proofs.Ytlbpllpomdjooaa.Vc
/-! depot/learn.Learn -/
def V20 (a0 : Option Addr) (a0n : Nat) (a0c : Nat) (a1 : Option Addr) (a1n : Nat) (a1c : Nat) (w : World) (R : Value → World → Prop) : Prop :=
  alc w [.slice a0 a0n a0c] 22 fun b2 w1 =>
  ldC w1 (⟨b2, 0, none⟩ : Addr) fun x4 x4n x4c =>
  cl Try.prog 40 [.slice x4 x4n x4c] w1 fun e6 w2 => ∃ x5 : Option Nat, e6 = Ending.returned (.map x5) ∧
  alc w2 [.map none] 52 fun b7 w3 =>
  st w3 ((⟨b7, 0, none⟩ : Addr).add 0) (.map x5) fun w4 =>
  ldC w4 (⟨b2, 0, none⟩ : Addr) fun x9 x9n x9c =>
  ldM w4 (⟨b7, 0, none⟩ : Addr) fun x10 =>
  cl Try.prog 43 [.slice x9 x9n x9c, .slice a1 a1n a1c, .map x10] w4 fun e12 w5 => ∃ x11 : Int, e12 = Ending.returned (.int .i64 x11) ∧
  pif (x11 != 0) (
    R (.tuple #[.slice none 0 0, .int .i64 0, .int .i64 x11]) w5) (
    ∃ x18 : Option Nat, ∃ w6 : World, (Instr.makeMap 52 none).run Try.prog w5 = .ok (.map x18) w6 ∧
    lp (σ := Int × Int × Unit) (fun s23 w7 k22 => match s23 with
      | (v20, v21, _) =>
      pif (decide (v21 < (a1n : Int))) (
        ixA a1 a1n v21 1 fun p26 =>
        ldI .i64 w7 p26 fun x27 =>
        clF Try.prog (.func (.func 47) #[] #[.pointer (some (⟨b2, 0, none⟩ : Addr)), .pointer (some (⟨b7, 0, none⟩ : Addr))]) [.int .i64 x27] w7 fun e30 w8 => ∃ x29 : Int, e30 = Ending.returned (.int .i64 x29) ∧
        ∃ w9 : World, (Instr.mapUpdate 52 (.map x18) (.int .i64 x27) (.int .i64 1)).run Try.prog w8 = .ok () w9 ∧
        k22 ((if x29 > v20 then x29 else v20), (IntKind.wrap .i64 (v21 + 1)), ()) w9) (
        pif (v20 == 0) (
          R (.tuple #[.slice none 0 0, .int .i64 (-1), .int .i64 0]) w7) (
          ∃ (q37 : Addr) (w10 : World), (Instr.range 52 (.map x18)).run Try.prog w7 = .ok (.pointer (some q37)) w10 ∧
          lp (σ := Int × Unit) (fun s40 w11 k39 => match s40 with
            | (v38, _) =>
            ∃ (q42 : Bool) (l43 : List Value) (w12 : World), (Instr.next (.pointer (some q37)) false 0).run Try.prog w11 = .ok (.tuple (.bool q42 :: l43).toArray) w12 ∧
            pif q42 (
              ∃ (x45 x46 : Int) (w13 : World), (Instr.entry (.pointer (some q37))).run Try.prog w12 = .ok (.tuple #[.int .i64 x45, .int .i64 x46]) w13 ∧
              clF Try.prog (.func (.func 47) #[] #[.pointer (some (⟨b2, 0, none⟩ : Addr)), .pointer (some (⟨b7, 0, none⟩ : Addr))]) [.int .i64 x45] w13 fun e49 w14 => ∃ x48 : Int, e49 = Ending.returned (.int .i64 x48) ∧
              pif (x48 == v20) (
                k39 ((IntKind.wrap .i64 (v38 + 1)), ()) w14) (
                k39 (v38, ()) w14)) (
              ldC w12 (⟨b2, 0, none⟩ : Addr) fun x53 x53n x53c =>
              lp (σ := Int × Int × Unit) (fun s57 w15 k56 => match s57 with
                | (v54, v55, _) =>
                jn (σ := Int × Unit) (fun k59 =>
                  ldC w15 (⟨b2, 0, none⟩ : Addr) fun x62 x62n x62c =>
                  ixA x62 x62n v55 3 fun p63 =>
                  ldI .i64 w15 (p63.add 0) fun x64 =>
                  ∃ x66 : Int, ∃ w17 : World, (Instr.lookup 52 (.map x18) (.int .i64 (IntKind.wrap .i64 (0 - x64))) false).run Try.prog w15 = .ok (.int .i64 x66) w17 ∧
                  gd (α := (Option Addr × Nat × Nat)) (!(x66 == 0)) (fun k67 =>
                    ldC w17 (⟨b2, 0, none⟩ : Addr) fun x68 x68n x68c =>
                    k67 (x68, x68n, x68c) w17) (none, 0, 0) w17 fun x69 w18 =>
                  gd (α := Addr) (!(x66 == 0)) (fun k70 =>
                    ixA x69.1 x69.2.1 v55 3 fun p71 =>
                    k70 p71 w18) ⟨0, 0, none⟩ w18 fun x72 w19 =>
                  gd (α := Int) (!(x66 == 0)) (fun k73 =>
                    ldI .i64 w19 (x72.add 1) fun x74 =>
                    k73 x74 w19) 0 w19 fun x75 w20 =>
                  pif (cond (x66 == 0) true (x75 != v20)) (
                    k59 (v54, ()) w20) (
                    pif (v54 == 1) (
                      ∃ (q79 : Addr) (w21 : World), (Instr.range 52 (.map x18)).run Try.prog w20 = .ok (.pointer (some q79)) w21 ∧
                      lp (σ := Int × (Option Addr × Nat × Nat) × Unit) (fun s83 w22 k82 => match s83 with
                        | (v80, (v81, v81n, v81c), _) =>
                        ∃ (q85 : Bool) (l86 : List Value) (w23 : World), (Instr.next (.pointer (some q79)) false 0).run Try.prog w22 = .ok (.tuple (.bool q85 :: l86).toArray) w23 ∧
                        pif q85 (
                          ∃ (x88 x89 : Int) (w24 : World), (Instr.entry (.pointer (some q79))).run Try.prog w23 = .ok (.tuple #[.int .i64 x88, .int .i64 x89]) w24 ∧
                          gd (α := Int) (x88 != (IntKind.wrap .i64 (0 - x64))) (fun k91 =>
                            clF Try.prog (.func (.func 47) #[] #[.pointer (some (⟨b2, 0, none⟩ : Addr)), .pointer (some (⟨b7, 0, none⟩ : Addr))]) [.int .i64 x88] w24 fun e93 w25 => ∃ x92 : Int, e93 = Ending.returned (.int .i64 x92) ∧
                            k91 x92 w25) 0 w24 fun x94 w26 =>
                          pif (cond (x88 != (IntKind.wrap .i64 (0 - x64))) (decide (x94 > 0)) false) (
                            alc w26 [.int .i64 x88] 3 fun b96 w27 =>
                            ∃ (x97 : Option Addr) (x97n x97c : Nat), ∃ w28 : World, (Builtin.append_ #[25, 25] 25 #[.slice v81 v81n v81c, .slice (some (⟨b96, 0, none⟩ : Addr)) 1 1]).run Try.prog w27 = .ok (.slice x97 x97n x97c) w28 ∧
                            clF Try.prog (.func (.func 47) #[] #[.pointer (some (⟨b2, 0, none⟩ : Addr)), .pointer (some (⟨b7, 0, none⟩ : Addr))]) [.int .i64 x88] w28 fun e100 w29 => ∃ x99 : Int, e100 = Ending.returned (.int .i64 x99) ∧
                            k82 ((if x99 > v80 then x99 else v80), (x97, x97n, x97c), ()) w29) (
                            k82 (v80, (v81, v81n, v81c), ()) w26)) (
                          alc w23 [.int .i64 (IntKind.wrap .i64 (0 - x64))] 3 fun b102 w30 =>
                          cl Try.prog 48 [.slice v81 v81n v81c] w30 fun e104 w31 => ∃ (x103 : Option Addr) (x103n x103c : Nat), e104 = Ending.returned (.slice x103 x103n x103c) ∧
                          ∃ (x105 : Option Addr) (x105n x105c : Nat), ∃ w32 : World, (Builtin.append_ #[25, 25] 25 #[.slice (some (⟨b102, 0, none⟩ : Addr)) 1 1, .slice x103 x103n x103c]).run Try.prog w31 = .ok (.slice x105 x105n x105c) w32 ∧
                          R (.tuple #[.slice x105 x105n x105c, .int .i64 v80, .int .i64 0]) w32)) (0, (none, 0, 0), ()) w21) (
                      ∃ w33 : World, (Builtin.delete_ #[52, 3] 0 #[.map x18, .int .i64 (IntKind.wrap .i64 (0 - x64))]).run Try.prog w20 = .ok (.tuple #[]) w33 ∧
                      ldC w33 (⟨b2, 0, none⟩ : Addr) fun x109 x109n x109c =>
                      ixA x109 x109n v55 3 fun p110 =>
                      ldC w33 (p110.add 2) fun x111 x111n x111c =>
                      lp (σ := Int × Int × Unit) (fun s115 w34 k114 => match s115 with
                        | (v112, v113, _) =>
                        pif (decide (v113 < (x111n : Int))) (
                          jn (σ := Int × Unit) (fun k118 =>
                            ixA x111 x111n v113 1 fun p121 =>
                            ldI .i64 w34 p121 fun x122 =>
                            ldC w34 (⟨b2, 0, none⟩ : Addr) fun x124 x124n x124c =>
                            ixA x124 x124n v55 3 fun p125 =>
                            ldI .i64 w34 (p125.add 0) fun x126 =>
                            gd (α := Int) (x122 != x126) (fun k127 =>
                              ∃ x128 : Int, ∃ w36 : World, (Instr.lookup 52 (.map x18) (.int .i64 x122) false).run Try.prog w34 = .ok (.int .i64 x128) w36 ∧
                              k127 x128 w36) 0 w34 fun x129 w37 =>
                            pif (cond (x122 != x126) (x129 == 0) false) (
                              ∃ w38 : World, (Instr.mapUpdate 52 (.map x18) (.int .i64 x122) (.int .i64 1)).run Try.prog w37 = .ok () w38 ∧
                              clF Try.prog (.func (.func 47) #[] #[.pointer (some (⟨b2, 0, none⟩ : Addr)), .pointer (some (⟨b7, 0, none⟩ : Addr))]) [.int .i64 x122] w38 fun e133 w39 => ∃ x132 : Int, e133 = Ending.returned (.int .i64 x132) ∧
                              pif (x132 == v20) (
                                k118 ((IntKind.wrap .i64 (v112 + 1)), ()) w39) (
                                k118 (v112, ()) w39)) (
                              k118 (v112, ()) w37)) fun s119 w35 => match s119 with
                          | (v117, _) =>
                          k114 (v117, (IntKind.wrap .i64 (v113 + 1)), ()) w35) (
                          k59 (v112, ()) w34)) ((IntKind.wrap .i64 (v54 - 1)), 0, ()) w33))) fun s60 w16 => match s60 with
                | (v58, _) =>
                k56 (v58, (IntKind.wrap .i64 (v55 - 1)), ()) w16) (v38, (IntKind.wrap .i64 ((x53n : Int) - 1)), ()) w12)) (0, ()) w10))) (0, 0, ()) w6)
def An20 : An := .seq (.leaf) (.seq (.leaf) (.seq (.seq (.leaf) (.seq (.leaf) (.cond (.seq (.leaf) (.leaf)) (.leaf)))) (.seq (.leaf) (.seq (.leaf) (.seq (.leaf) (.seq (.seq (.leaf) (.blk (.loop [(10, .one (.int .i64)), (35, .one (.int .i64))] (.seq (.leaf) (.seq (.cond (.leaf) (.leaf)) (.seq (.blk (.seq (.leaf) (.seq (.leaf) (.leaf)))) (.leaf))))))) (.seq (.seq (.leaf) (.cond (.seq (.leaf) (.leaf)) (.leaf))) (.seq (.leaf) (.seq (.seq (.leaf) (.blk (.loop [(14, .one (.int .i64))] (.seq (.leaf) (.seq (.cond (.leaf) (.leaf)) (.blk (.seq (.leaf) (.seq (.leaf) (.cond (.leaf) (.leaf)))))))))) (.seq (.leaf) (.seq (.seq (.leaf) (.blk (.loop [(14, .one (.int .i64)), (17, .one (.int .i64))] (.seq (.join [(14, .one (.int .i64))] (.blk (.seq (.leaf) (.seq (.seq (.leaf) (.cond (.leaf) (.leaf))) (.seq (.seq (.leaf) (.cond (.leaf) (.leaf))) (.seq (.leaf) (.seq (.leaf) (.seq (.leaf) (.blk (.loop [(14, .one (.int .i64)), (98, .one (.int .i64))] (.seq (.leaf) (.seq (.cond (.leaf) (.leaf)) (.seq (.join [(14, .one (.int .i64))] (.blk (.seq (.leaf) (.seq (.leaf) (.cond (.seq (.leaf) (.seq (.leaf) (.cond (.leaf) (.leaf)))) (.leaf)))))) (.leaf)))))))))))))) (.leaf))))) (.seq (.leaf) (.seq (.seq (.leaf) (.blk (.loop [(5, .one (.int .i64)), (20, .one (.slc))] (.seq (.leaf) (.seq (.cond (.leaf) (.leaf)) (.blk (.seq (.leaf) (.seq (.leaf) (.cond (.seq (.leaf) (.leaf)) (.leaf)))))))))) (.seq (.leaf) (.leaf)))))))))))))))
theorem V20_eq (a0 : Option Addr) (a0n : Nat) (a0c : Nat) (a1 : Option Addr) (a1n : Nat) (a1c : Nat) (w : World) (R : Value → World → Prop) : evF Try.prog Try.f20 An20 [.slice a0 a0n a0c, .slice a1 a1n a1c] w R = V20 a0 a0n a0c a1 a1n a1c w R := by kernel_rfl
theorem V20_calls (a0 : Option Addr) (a0n : Nat) (a0c : Nat) (a1 : Option Addr) (a1n : Nat) (a1c : Nat) (w : World) (R : Value → World → Prop) (h : V20 a0 a0n a0c a1 a1n a1c w R) : Calls Try.prog 20 #[.slice a0 a0n a0c, .slice a1 a1n a1c] w fun e w' => ∃ v, e = .returned v ∧ R v w' :=
  calls_of_ev (args := [.slice a0 a0n a0c, .slice a1 a1n a1c]) Try.func20 (Nat.le_of_ble_eq_true (by kernel_rfl)) (by rw [V20_eq]; exact h)
theorem ok20 : fnOk Try.prog 20 = true := by kernel_rfl

end Go.Proofs.Ytlbpllpomdjooaa.T
