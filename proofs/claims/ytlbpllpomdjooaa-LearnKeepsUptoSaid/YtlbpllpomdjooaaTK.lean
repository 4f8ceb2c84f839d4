/- The conditions under which the functions printed here return, as propositions over typed values; each is the machine's own, by the generator's theorem. -/
import Derived.Test.YtlbpllpomdjooaaProg
import Derived.Test.YtlbpllpomdjooaaVcG
set_option linter.unusedVariables false
set_option maxRecDepth 100000
namespace Go.Proofs.Ytlbpllpomdjooaa.T
open Go Go.Proofs.Ytlbpllpomdjooaa.Vc
/-! depot/depotlaw15.LearnKeeps -/
def V9 (a0_0 : Option Addr) (a0_0n : Nat) (a0_0c : Nat) (a0_1 : Option Addr) (a0_1n : Nat) (a0_1c : Nat) (a0_2 : Option Addr) (a0_2n : Nat) (a0_2c : Nat) (a0_3 : Option Addr) (a0_3n : Nat) (a0_3c : Nat) (w : World) (R : Value → World → Prop) : Prop :=
  alc w [.slice a0_0 a0_0n a0_0c, .slice a0_1 a0_1n a0_1c, .slice a0_2 a0_2n a0_2c, .slice a0_3 a0_3n a0_3c] 42 fun b2 w1 =>
  ldC w1 ((⟨b2, 0, none⟩ : Addr).add 0) fun x4 x4n x4c =>
  cl Try.prog 26 [.slice x4 x4n x4c] w1 fun e8 w2 => ∃ (x5 : Option Addr) (x5n x5c : Nat), ∃ (x6 : Option Addr) (x6n x6c : Nat), ∃ (x7 : Option Addr) (x7n x7c : Nat), e8 = Ending.returned (.agg #[.slice x5 x5n x5c, .slice x6 x6n x6c, .slice x7 x7n x7c]) ∧
  alc w2 [.slice none 0 0, .slice none 0 0, .slice none 0 0] 45 fun b9 w3 =>
  st w3 ((⟨b9, 0, none⟩ : Addr).add 0) (.slice x5 x5n x5c) fun w4 =>
  st w4 ((⟨b9, 0, none⟩ : Addr).add 1) (.slice x6 x6n x6c) fun w5 =>
  st w5 ((⟨b9, 0, none⟩ : Addr).add 2) (.slice x7 x7n x7c) fun w6 =>
  ldC w6 ((⟨b2, 0, none⟩ : Addr).add 2) fun x11 x11n x11c =>
  cl Try.prog 27 [.slice x11 x11n x11c] w6 fun e13 w7 => ∃ (x12 : Option Addr) (x12n x12c : Nat), e13 = Ending.returned (.slice x12 x12n x12c) ∧
  ldC (World.drew w7) ((⟨b9, 0, none⟩ : Addr).add 0) fun x14 x14n x14c =>
  ldC (World.drew w7) ((⟨b2, 0, none⟩ : Addr).add 2) fun x15 x15n x15c =>
  0 ≤ (x15n : Int) ∧ (x15n : Int) ≤ (x12c : Int) ∧
  cl Try.prog 20 [.slice x14 x14n x14c, .slice (slA x12 x12c 0 1) ((Int.toNat (x15n : Int)) - 0) (x12c - 0)] (World.drew w7) fun e19 w8 => ∃ (x16 : Option Addr) (x16n x16c : Nat), ∃ x17 : Int, ∃ x18 : Int, e19 = Ending.returned (.tuple #[.slice x16 x16n x16c, .int .i64 x17, .int .i64 x18]) ∧
  ldC (World.drew w8) ((⟨b9, 0, none⟩ : Addr).add 0) fun x20 x20n x20c =>
  ldC (World.drew w8) ((⟨b2, 0, none⟩ : Addr).add 2) fun x21 x21n x21c =>
  0 ≤ (x21n : Int) ∧ (x21n : Int) ≤ (x12c : Int) ∧
  cl Try.prog 16 [.slice x20 x20n x20c, .slice (slA x12 x12c 0 1) ((Int.toNat (x21n : Int)) - 0) (x12c - 0)] (World.drew w8) fun e24 w9 => ∃ (x22 : Option Addr) (x22n x22c : Nat), ∃ x23 : Int, e24 = Ending.returned (.tuple #[.slice x22 x22n x22c, .int .i64 x23]) ∧
  ldC (World.drew w9) ((⟨b9, 0, none⟩ : Addr).add 0) fun x25 x25n x25c =>
  ldC (World.drew w9) ((⟨b2, 0, none⟩ : Addr).add 2) fun x26 x26n x26c =>
  0 ≤ (x26n : Int) ∧ (x26n : Int) ≤ (x12c : Int) ∧
  cl Try.prog 13 [.slice x25 x25n x25c, .slice (slA x12 x12c 0 1) ((Int.toNat (x26n : Int)) - 0) (x12c - 0)] (World.drew w9) fun e29 w10 => ∃ x27 : Int, ∃ x28 : Int, e29 = Ending.returned (.tuple #[.int .i64 x27, .int .i64 x28]) ∧
  ldC w10 ((⟨b9, 0, none⟩ : Addr).add 0) fun x31 x31n x31c =>
  cl Try.prog 10 [.slice x31 x31n x31c] w10 fun e33 w11 => ∃ x32 : Bool, e33 = Ending.returned (.bool x32) ∧
  ldC w11 ((⟨b9, 0, none⟩ : Addr).add 0) fun x35 x35n x35c =>
  ldC w11 ((⟨b9, 0, none⟩ : Addr).add 1) fun x36 x36n x36c =>
  ldC w11 ((⟨b9, 0, none⟩ : Addr).add 2) fun x37 x37n x37c =>
  ldC w11 ((⟨b2, 0, none⟩ : Addr).add 0) fun x38 x38n x38c =>
  cl Try.prog 28 [.agg #[.slice x35 x35n x35c, .slice x36 x36n x36c, .slice x37 x37n x37c], .slice x38 x38n x38c] w11 fun e40 w12 => ∃ x39 : Bool, e40 = Ending.returned (.bool x39) ∧
  gd (α := (Option Addr × Nat × Nat)) (!(!x39)) (fun k41 =>
    ldC w12 ((⟨b2, 0, none⟩ : Addr).add 2) fun x42 x42n x42c =>
    k41 (x42, x42n, x42c) w12) (none, 0, 0) w12 fun x43 w13 =>
  gd (α := Bool) (!(!x39)) (fun k44 =>
    cl Try.prog 29 [.slice x12 x12n x12c, .slice x43.1 x43.2.1 x43.2.2] w13 fun e46 w14 => ∃ x45 : Bool, e46 = Ending.returned (.bool x45) ∧
    k44 x45 w14) false w13 fun x47 w15 =>
  pif (cond (!x39) true (!x47)) (
    R (.bool false) w15) (
    ldC (World.drew w15) ((⟨b2, 0, none⟩ : Addr).add 1) fun x49 x49n x49c =>
    ldC (World.drew w15) ((⟨b2, 0, none⟩ : Addr).add 3) fun x50 x50n x50c =>
    cl Try.prog 11 [.slice x49 x49n x49c] (World.drew w15) fun e52 w16 => ∃ (x51 : Option Addr) (x51n x51c : Nat), e52 = Ending.returned (.slice x51 x51n x51c) ∧
    (
      ldC w16 ((⟨b2, 0, none⟩ : Addr).add 3) fun x53 x53n x53c =>
      ((.slice x53 x53n x53c : Value) = .slice x50 x50n x50c)) ∧
    cl Try.prog 14 [.slice x50 x50n x50c] w16 fun e55 w17 => ∃ (x54 : Option Addr) (x54n x54c : Nat), e55 = Ending.returned (.slice x54 x54n x54c) ∧
    cl Try.prog 20 [.slice x51 x51n x51c, .slice x54 x54n x54c] w17 fun e59 w18 => ∃ (x56 : Option Addr) (x56n x56c : Nat), ∃ x57 : Int, ∃ x58 : Int, e59 = Ending.returned (.tuple #[.slice x56 x56n x56c, .int .i64 x57, .int .i64 x58]) ∧
    ldC (World.drew w18) ((⟨b2, 0, none⟩ : Addr).add 1) fun x60 x60n x60c =>
    ldC (World.drew w18) ((⟨b2, 0, none⟩ : Addr).add 3) fun x61 x61n x61c =>
    cl Try.prog 11 [.slice x60 x60n x60c] (World.drew w18) fun e63 w19 => ∃ (x62 : Option Addr) (x62n x62c : Nat), e63 = Ending.returned (.slice x62 x62n x62c) ∧
    (
      ldC w19 ((⟨b2, 0, none⟩ : Addr).add 3) fun x64 x64n x64c =>
      ((.slice x64 x64n x64c : Value) = .slice x61 x61n x61c)) ∧
    cl Try.prog 14 [.slice x61 x61n x61c] w19 fun e66 w20 => ∃ (x65 : Option Addr) (x65n x65c : Nat), e66 = Ending.returned (.slice x65 x65n x65c) ∧
    cl Try.prog 16 [.slice x62 x62n x62c, .slice x65 x65n x65c] w20 fun e69 w21 => ∃ (x67 : Option Addr) (x67n x67c : Nat), ∃ x68 : Int, e69 = Ending.returned (.tuple #[.slice x67 x67n x67c, .int .i64 x68]) ∧
    ldC (World.drew w21) ((⟨b9, 0, none⟩ : Addr).add 0) fun x70 x70n x70c =>
    ldC (World.drew w21) ((⟨b2, 0, none⟩ : Addr).add 2) fun x71 x71n x71c =>
    0 ≤ (x71n : Int) ∧ (x71n : Int) ≤ (x12c : Int) ∧
    cl Try.prog 20 [.slice x70 x70n x70c, .slice (slA x12 x12c 0 1) ((Int.toNat (x71n : Int)) - 0) (x12c - 0)] (World.drew w21) fun e75 w22 => ∃ (x72 : Option Addr) (x72n x72c : Nat), ∃ x73 : Int, ∃ x74 : Int, e75 = Ending.returned (.tuple #[.slice x72 x72n x72c, .int .i64 x73, .int .i64 x74]) ∧
    ldC (World.drew w22) ((⟨b9, 0, none⟩ : Addr).add 0) fun x76 x76n x76c =>
    ldC (World.drew w22) ((⟨b2, 0, none⟩ : Addr).add 2) fun x77 x77n x77c =>
    0 ≤ (x77n : Int) ∧ (x77n : Int) ≤ (x12c : Int) ∧
    cl Try.prog 16 [.slice x76 x76n x76c, .slice (slA x12 x12c 0 1) ((Int.toNat (x77n : Int)) - 0) (x12c - 0)] (World.drew w22) fun e80 w23 => ∃ (x78 : Option Addr) (x78n x78c : Nat), ∃ x79 : Int, e80 = Ending.returned (.tuple #[.slice x78 x78n x78c, .int .i64 x79]) ∧
    ldC w23 ((⟨b2, 0, none⟩ : Addr).add 0) fun x82 x82n x82c =>
    ldC w23 ((⟨b2, 0, none⟩ : Addr).add 2) fun x83 x83n x83c =>
    cl Try.prog 21 [.slice x82 x82n x82c, .slice x83 x83n x83c] w23 fun e87 w24 => ∃ (x84 : Option Addr) (x84n x84c : Nat), ∃ x85 : Int, ∃ x86 : Int, e87 = Ending.returned (.tuple #[.slice x84 x84n x84c, .int .i64 x85, .int .i64 x86]) ∧
    ldC w24 ((⟨b2, 0, none⟩ : Addr).add 0) fun x89 x89n x89c =>
    ldC w24 ((⟨b2, 0, none⟩ : Addr).add 2) fun x90 x90n x90c =>
    cl Try.prog 17 [.slice x89 x89n x89c, .slice x90 x90n x90c] w24 fun e93 w25 => ∃ (x91 : Option Addr) (x91n x91c : Nat), ∃ x92 : Int, e93 = Ending.returned (.tuple #[.slice x91 x91n x91c, .int .i64 x92]) ∧
    ldC w25 ((⟨b2, 0, none⟩ : Addr).add 0) fun x95 x95n x95c =>
    ldC w25 ((⟨b2, 0, none⟩ : Addr).add 2) fun x96 x96n x96c =>
    cl Try.prog 15 [.slice x95 x95n x95c, .slice x96 x96n x96c] w25 fun e99 w26 => ∃ x97 : Int, ∃ x98 : Int, e99 = Ending.returned (.tuple #[.int .i64 x97, .int .i64 x98]) ∧
    gd (α := (Option Addr × Nat × Nat)) (!(cond (cond (cond (x17 != x85) true (x18 != x86)) true (x23 != x92)) true (x27 != x97))) (fun k101 =>
      ldC w26 ((⟨b2, 0, none⟩ : Addr).add 0) fun x102 x102n x102c =>
      k101 (x102, x102n, x102c) w26) (none, 0, 0) w26 fun x103 w27 =>
    gd (α := Bool) (!(cond (cond (cond (x17 != x85) true (x18 != x86)) true (x23 != x92)) true (x27 != x97))) (fun k104 =>
      cl Try.prog 12 [.slice x103.1 x103.2.1 x103.2.2] w27 fun e106 w28 => ∃ x105 : Bool, e106 = Ending.returned (.bool x105) ∧
      k104 x105 w28) false w27 fun x107 w29 =>
    gd (α := Bool) (!(cond (cond (cond (cond (x17 != x85) true (x18 != x86)) true (x23 != x92)) true (x27 != x97)) true (!(x32 == x107)))) (fun k108 =>
      cl Try.prog 18 [.slice x72 x72n x72c, .slice x84 x84n x84c] w29 fun e110 w30 => ∃ x109 : Bool, e110 = Ending.returned (.bool x109) ∧
      k108 x109 w30) false w29 fun x111 w31 =>
    gd (α := Bool) (!(cond (cond (cond (cond (cond (x17 != x85) true (x18 != x86)) true (x23 != x92)) true (x27 != x97)) true (!(x32 == x107))) true (!x111))) (fun k112 =>
      cl Try.prog 18 [.slice x78 x78n x78c, .slice x91 x91n x91c] w31 fun e114 w32 => ∃ x113 : Bool, e114 = Ending.returned (.bool x113) ∧
      k112 x113 w32) false w31 fun x115 w33 =>
    pif (cond (cond (cond (cond (cond (cond (x17 != x85) true (x18 != x86)) true (x23 != x92)) true (x27 != x97)) true (!(x32 == x107))) true (!x111)) true (!x115)) (
      R (.bool false) w33) (
      ldC w33 ((⟨b9, 0, none⟩ : Addr).add 0) fun x118 x118n x118c =>
      ldC w33 ((⟨b9, 0, none⟩ : Addr).add 1) fun x119 x119n x119c =>
      ldC w33 ((⟨b9, 0, none⟩ : Addr).add 2) fun x120 x120n x120c =>
      cl Try.prog 30 [.agg #[.slice x118 x118n x118c, .slice x119 x119n x119c, .slice x120 x120n x120c]] w33 fun e121 w34 => e121 = Ending.returned (.tuple #[]) ∧
      cl Try.prog 31 [.slice x12 x12n x12c] w34 fun e123 w35 => e123 = Ending.returned (.tuple #[]) ∧
      cl Try.prog 18 [.slice x16 x16n x16c, .slice x84 x84n x84c] w35 fun e126 w36 => ∃ x125 : Bool, e126 = Ending.returned (.bool x125) ∧
      gd (α := Bool) (!(!x125)) (fun k127 =>
        cl Try.prog 18 [.slice x22 x22n x22c, .slice x91 x91n x91c] w36 fun e129 w37 => ∃ x128 : Bool, e129 = Ending.returned (.bool x128) ∧
        k127 x128 w37) false w36 fun x130 w38 =>
      pif (cond (!x125) true (!x130)) (
        R (.bool false) w38) (
        ldC (World.drew w38) ((⟨b9, 0, none⟩ : Addr).add 0) fun x132 x132n x132c =>
        ldC (World.drew w38) ((⟨b2, 0, none⟩ : Addr).add 2) fun x133 x133n x133c =>
        0 ≤ (x133n : Int) ∧ (x133n : Int) ≤ (x12c : Int) ∧
        cl Try.prog 20 [.slice x132 x132n x132c, .slice (slA x12 x12c 0 1) ((Int.toNat (x133n : Int)) - 0) (x12c - 0)] (World.drew w38) fun e137 w39 => ∃ (x134 : Option Addr) (x134n x134c : Nat), ∃ x135 : Int, ∃ x136 : Int, e137 = Ending.returned (.tuple #[.slice x134 x134n x134c, .int .i64 x135, .int .i64 x136]) ∧
        ldC (World.drew w39) ((⟨b9, 0, none⟩ : Addr).add 0) fun x138 x138n x138c =>
        ldC (World.drew w39) ((⟨b2, 0, none⟩ : Addr).add 2) fun x139 x139n x139c =>
        0 ≤ (x139n : Int) ∧ (x139n : Int) ≤ (x12c : Int) ∧
        cl Try.prog 21 [.slice x138 x138n x138c, .slice (slA x12 x12c 0 1) ((Int.toNat (x139n : Int)) - 0) (x12c - 0)] (World.drew w39) fun e143 w40 => ∃ (x140 : Option Addr) (x140n x140c : Nat), ∃ x141 : Int, ∃ x142 : Int, e143 = Ending.returned (.tuple #[.slice x140 x140n x140c, .int .i64 x141, .int .i64 x142]) ∧
        gd (α := Bool) (!(cond (x135 != x141) true (x136 != x142))) (fun k145 =>
          cl Try.prog 18 [.slice x134 x134n x134c, .slice x140 x140n x140c] w40 fun e147 w41 => ∃ x146 : Bool, e147 = Ending.returned (.bool x146) ∧
          k145 x146 w41) false w40 fun x148 w42 =>
        pif (cond (cond (x135 != x141) true (x136 != x142)) true (!x148)) (
          R (.bool false) w42) (
          ldC (World.drew w42) ((⟨b9, 0, none⟩ : Addr).add 0) fun x150 x150n x150c =>
          ldC (World.drew w42) ((⟨b2, 0, none⟩ : Addr).add 2) fun x151 x151n x151c =>
          0 ≤ (x151n : Int) ∧ (x151n : Int) ≤ (x12c : Int) ∧
          cl Try.prog 16 [.slice x150 x150n x150c, .slice (slA x12 x12c 0 1) ((Int.toNat (x151n : Int)) - 0) (x12c - 0)] (World.drew w42) fun e154 w43 => ∃ (x152 : Option Addr) (x152n x152c : Nat), ∃ x153 : Int, e154 = Ending.returned (.tuple #[.slice x152 x152n x152c, .int .i64 x153]) ∧
          ldC (World.drew w43) ((⟨b9, 0, none⟩ : Addr).add 0) fun x155 x155n x155c =>
          ldC (World.drew w43) ((⟨b2, 0, none⟩ : Addr).add 2) fun x156 x156n x156c =>
          0 ≤ (x156n : Int) ∧ (x156n : Int) ≤ (x12c : Int) ∧
          cl Try.prog 17 [.slice x155 x155n x155c, .slice (slA x12 x12c 0 1) ((Int.toNat (x156n : Int)) - 0) (x12c - 0)] (World.drew w43) fun e159 w44 => ∃ (x157 : Option Addr) (x157n x157c : Nat), ∃ x158 : Int, e159 = Ending.returned (.tuple #[.slice x157 x157n x157c, .int .i64 x158]) ∧
          ldC (World.drew w44) ((⟨b9, 0, none⟩ : Addr).add 0) fun x160 x160n x160c =>
          ldC (World.drew w44) ((⟨b2, 0, none⟩ : Addr).add 2) fun x161 x161n x161c =>
          0 ≤ (x161n : Int) ∧ (x161n : Int) ≤ (x12c : Int) ∧
          cl Try.prog 13 [.slice x160 x160n x160c, .slice (slA x12 x12c 0 1) ((Int.toNat (x161n : Int)) - 0) (x12c - 0)] (World.drew w44) fun e164 w45 => ∃ x162 : Int, ∃ x163 : Int, e164 = Ending.returned (.tuple #[.int .i64 x162, .int .i64 x163]) ∧
          ldC (World.drew w45) ((⟨b9, 0, none⟩ : Addr).add 0) fun x165 x165n x165c =>
          ldC (World.drew w45) ((⟨b2, 0, none⟩ : Addr).add 2) fun x166 x166n x166c =>
          0 ≤ (x166n : Int) ∧ (x166n : Int) ≤ (x12c : Int) ∧
          cl Try.prog 15 [.slice x165 x165n x165c, .slice (slA x12 x12c 0 1) ((Int.toNat (x166n : Int)) - 0) (x12c - 0)] (World.drew w45) fun e169 w46 => ∃ x167 : Int, ∃ x168 : Int, e169 = Ending.returned (.tuple #[.int .i64 x167, .int .i64 x168]) ∧
          gd (α := Bool) (!(x153 != x158)) (fun k170 =>
            cl Try.prog 18 [.slice x152 x152n x152c, .slice x157 x157n x157c] (World.drew w46) fun e172 w47 => ∃ x171 : Bool, e172 = Ending.returned (.bool x171) ∧
            k170 x171 w47) false (World.drew w46) fun x173 w48 =>
          gd (α := (Option Addr × Nat × Nat)) (!(cond (cond (cond (x153 != x158) true (!x173)) true (x162 != x167)) true (x163 != x168))) (fun k174 =>
            ldC w48 ((⟨b9, 0, none⟩ : Addr).add 0) fun x175 x175n x175c =>
            k174 (x175, x175n, x175c) w48) (none, 0, 0) w48 fun x176 _ =>
          gd (α := (Option Addr × Nat × Nat)) (!(cond (cond (cond (x153 != x158) true (!x173)) true (x162 != x167)) true (x163 != x168))) (fun k177 =>
            ldC w48 ((⟨b9, 0, none⟩ : Addr).add 0) fun x178 x178n x178c =>
            k177 (x178, x178n, x178c) w48) (none, 0, 0) w48 fun x179 _ =>
          gd (α := Bool) (!(cond (cond (cond (x153 != x158) true (!x173)) true (x162 != x167)) true (x163 != x168))) (fun k180 =>
            cl Try.prog 10 [.slice x176.1 x176.2.1 x176.2.2] w48 fun e182 w49 => ∃ x181 : Bool, e182 = Ending.returned (.bool x181) ∧
            k180 x181 w49) false w48 fun x183 w50 =>
          ((!(cond (cond (cond (x153 != x158) true (!x173)) true (x162 != x167)) true (x163 != x168))) = true →
            ldC w50 ((⟨b9, 0, none⟩ : Addr).add 0) fun x184 x184n x184c =>
            ((.slice x184 x184n x184c : Value) = .slice x179.1 x179.2.1 x179.2.2)) ∧
          gd (α := Bool) (!(cond (cond (cond (x153 != x158) true (!x173)) true (x162 != x167)) true (x163 != x168))) (fun k185 =>
            cl Try.prog 12 [.slice x179.1 x179.2.1 x179.2.2] w50 fun e187 w51 => ∃ x186 : Bool, e187 = Ending.returned (.bool x186) ∧
            k185 x186 w51) false w50 fun x188 w52 =>
          pif (cond (cond (cond (cond (x153 != x158) true (!x173)) true (x162 != x167)) true (x163 != x168)) true (!(x183 == x188))) (
            R (.bool false) w52) (
            alc w52 [.slice x16 x16n x16c, .slice x72 x72n x72c, .slice x56 x56n x56c, .slice x134 x134n x134c, .slice x22 x22n x22c, .slice x78 x78n x78c, .slice x67 x67n x67c] 25 fun b191 w53 =>
            cl Try.prog 32 [.slice (some (⟨b191, 0, none⟩ : Addr)) 7 7] w53 fun e193 w54 => ∃ x192 : Bool, e193 = Ending.returned (.bool x192) ∧
            R (.bool x192) w54)))))
def An9 : An := .seq (.leaf) (.seq (.leaf) (.seq (.leaf) (.seq (.draw [0, 1, 0, 0, 8, 24, 60, 127, 255, 511, 511, 511, 1023, 6143, 16383]) (.seq (.draw [0, 1, 0, 0, 8, 24, 60, 127, 255, 511, 511, 1023, 4095]) (.seq (.draw [0, 1, 0, 0, 8, 24, 60, 127, 255, 511, 511, 1023, 4095]) (.seq (.leaf) (.seq (.seq (.leaf) (.cond (.seq (.leaf) (.leaf)) (.leaf))) (.seq (.draw [0, 1, 3, 0, 8, 31, 63, 127, 255, 255, 255, 511, 3071, 8191]) (.seq (.draw [0, 1, 3, 0, 8, 31, 63, 127, 255, 255, 511, 2047]) (.seq (.draw [0, 1, 0, 0, 8, 24, 60, 127, 255, 511, 511, 511, 1023, 6143, 16383]) (.seq (.draw [0, 1, 0, 0, 8, 24, 60, 127, 255, 511, 511, 1023, 4095]) (.seq (.leaf) (.seq (.leaf) (.seq (.leaf) (.seq (.seq (.leaf) (.cond (.seq (.leaf) (.leaf)) (.leaf))) (.seq (.leaf) (.seq (.leaf) (.seq (.seq (.leaf) (.cond (.seq (.leaf) (.leaf)) (.leaf))) (.seq (.draw [0, 1, 0, 0, 8, 24, 60, 127, 255, 511, 511, 511, 1023, 6143, 16383]) (.seq (.draw [0, 1, 0, 0, 8, 24, 60, 127, 255, 511, 511, 511, 1023, 6143, 16383]) (.seq (.seq (.leaf) (.cond (.seq (.leaf) (.leaf)) (.leaf))) (.seq (.draw [0, 1, 0, 0, 8, 24, 60, 127, 255, 511, 511, 1023, 4095]) (.seq (.draw [0, 1, 0, 0, 8, 24, 60, 127, 255, 511, 511, 1023, 4095]) (.seq (.draw [0, 1, 0, 0, 8, 24, 60, 127, 255, 511, 511, 1023, 4095]) (.seq (.draw [0, 1, 0, 0, 8, 24, 60, 127, 255, 511, 511, 1023, 4095]) (.seq (.seq (.draw [0, 0, 3, 7, 15, 15, 63, 127, 255, 511, 1023, 1023, 4095, 8191, 16383, 32767, 32767, 131071, 262143, 524287, 1048575, 2097151, 4194303, 1048575, 9437183, 33554431, 67108863, 134217727]) (.cond (.seq (.leaf) (.leaf)) (.leaf))) (.seq (.leaf) (.leaf))))))))))))))))))))))))))))
theorem V9_eq (a0_0 : Option Addr) (a0_0n : Nat) (a0_0c : Nat) (a0_1 : Option Addr) (a0_1n : Nat) (a0_1c : Nat) (a0_2 : Option Addr) (a0_2n : Nat) (a0_2c : Nat) (a0_3 : Option Addr) (a0_3n : Nat) (a0_3c : Nat) (w : World) (R : Value → World → Prop) : evF Try.prog Try.f9 An9 [.agg #[.slice a0_0 a0_0n a0_0c, .slice a0_1 a0_1n a0_1c, .slice a0_2 a0_2n a0_2c, .slice a0_3 a0_3n a0_3c]] w R = V9 a0_0 a0_0n a0_0c a0_1 a0_1n a0_1c a0_2 a0_2n a0_2c a0_3 a0_3n a0_3c w R := by kernel_rfl
theorem V9_calls (a0_0 : Option Addr) (a0_0n : Nat) (a0_0c : Nat) (a0_1 : Option Addr) (a0_1n : Nat) (a0_1c : Nat) (a0_2 : Option Addr) (a0_2n : Nat) (a0_2c : Nat) (a0_3 : Option Addr) (a0_3n : Nat) (a0_3c : Nat) (w : World) (R : Value → World → Prop) (h : V9 a0_0 a0_0n a0_0c a0_1 a0_1n a0_1c a0_2 a0_2n a0_2c a0_3 a0_3n a0_3c w R) : Calls Try.prog 9 #[.agg #[.slice a0_0 a0_0n a0_0c, .slice a0_1 a0_1n a0_1c, .slice a0_2 a0_2n a0_2c, .slice a0_3 a0_3n a0_3c]] w fun e w' => ∃ v, e = .returned v ∧ R v w' :=
  calls_of_ev (args := [.agg #[.slice a0_0 a0_0n a0_0c, .slice a0_1 a0_1n a0_1c, .slice a0_2 a0_2n a0_2c, .slice a0_3 a0_3n a0_3c]]) Try.func9 (Nat.le_of_ble_eq_true (by kernel_rfl)) (by rw [V9_eq]; exact h)
theorem ok9 : fnOk Try.prog 9 = true := by kernel_rfl

/-! depot/depotkit.LentEntries -/
def V26 (a0 : Option Addr) (a0n : Nat) (a0c : Nat) (w : World) (R : Value → World → Prop) : Prop :=
  alc w [.slice none 0 0, .slice none 0 0, .slice none 0 0] 45 fun b2 w1 =>
  alc w1 [.slice none 0 0, .slice none 0 0, .slice none 0 0] 45 fun b4 w2 =>
  lp (σ := Int × Unit) (fun s8 w3 k7 => match s8 with
    | (v6, _) =>
    pif (decide (v6 < (a0n : Int))) (
      ixA a0 a0n v6 3 fun p11 =>
      ldC w3 (p11.add 2) fun x12 x12n x12c =>
      cl Try.prog 27 [.slice x12 x12n x12c] w3 fun e14 w4 => ∃ (x13 : Option Addr) (x13n x13c : Nat), e14 = Ending.returned (.slice x13 x13n x13c) ∧
      ldC w4 ((⟨b4, 0, none⟩ : Addr).add 2) fun x16 x16n x16c =>
      alc w4 [.slice x13 x13n x13c] 25 fun b17 w5 =>
      ∃ (x18 : Option Addr) (x18n x18c : Nat), ∃ w6 : World, (Builtin.append_ #[43, 43] 43 #[.slice x16 x16n x16c, .slice (some (⟨b17, 0, none⟩ : Addr)) 1 1]).run Try.prog w5 = .ok (.slice x18 x18n x18c) w6 ∧
      st w6 (((⟨b4, 0, none⟩ : Addr).add 2).add 0) (.slice x18 x18n x18c) fun w7 =>
      ldC (World.drew w7) ((⟨b4, 0, none⟩ : Addr).add 1) fun x19 x19n x19c =>
      ixA a0 a0n v6 3 fun p20 =>
      ldI .i64 (World.drew w7) (p20.add 0) fun x21 =>
      ixA a0 a0n v6 3 fun p22 =>
      ldI .i64 (World.drew w7) (p22.add 1) fun x23 =>
      ixA a0 a0n v6 3 fun p24 =>
      ldC (World.drew w7) (p24.add 2) fun x25 x25n x25c =>
      0 ≤ (x25n : Int) ∧ (x25n : Int) ≤ (x13c : Int) ∧
      alc (World.drew w7) [.int .i64 x21, .int .i64 x23, .slice (slA x13 x13c 0 1) ((Int.toNat (x25n : Int)) - 0) (x13c - 0)] 54 fun b26 w8 =>
      (
        ldC w8 ((⟨b4, 0, none⟩ : Addr).add 1) fun x27 x27n x27c =>
        ((.slice x27 x27n x27c : Value) = .slice x19 x19n x19c)) ∧
      ∃ (x28 : Option Addr) (x28n x28c : Nat), ∃ w9 : World, (Builtin.append_ #[22, 22] 22 #[.slice x19 x19n x19c, .slice (some (⟨b26, 0, none⟩ : Addr)) 1 1]).run Try.prog w8 = .ok (.slice x28 x28n x28c) w9 ∧
      st w9 (((⟨b4, 0, none⟩ : Addr).add 1).add 0) (.slice x28 x28n x28c) fun w10 =>
      k7 ((IntKind.wrap .i64 (v6 + 1)), ()) w10) (
      lp (σ := Int × Unit) (fun s33 w11 k32 => match s33 with
        | (v31, _) =>
        pif (decide (v31 < 64)) (
          ldC (World.drew w11) ((⟨b4, 0, none⟩ : Addr).add 1) fun x35 x35n x35c =>
          cl Try.prog 54 [.int .i64 1, .int .i64 v31] (World.drew w11) fun e37 w12 => ∃ x36 : Int, e37 = Ending.returned (.int .i64 x36) ∧
          (
            ldC w12 ((⟨b4, 0, none⟩ : Addr).add 1) fun x38 x38n x38c =>
            ((.slice x38 x38n x38c : Value) = .slice x35 x35n x35c)) ∧
          alc w12 [.int .i64 x36, .int .i64 0, .slice none 0 0] 54 fun b39 w13 =>
          (
            ldC w13 ((⟨b4, 0, none⟩ : Addr).add 1) fun x40 x40n x40c =>
            ((.slice x40 x40n x40c : Value) = .slice x35 x35n x35c)) ∧
          ∃ (x41 : Option Addr) (x41n x41c : Nat), ∃ w14 : World, (Builtin.append_ #[22, 22] 22 #[.slice x35 x35n x35c, .slice (some (⟨b39, 0, none⟩ : Addr)) 1 1]).run Try.prog w13 = .ok (.slice x41 x41n x41c) w14 ∧
          st w14 (((⟨b4, 0, none⟩ : Addr).add 1).add 0) (.slice x41 x41n x41c) fun w15 =>
          k32 ((IntKind.wrap .i64 (v31 + 1)), ()) w15) (
          ldC w11 ((⟨b4, 0, none⟩ : Addr).add 1) fun x44 x44n x44c =>
          0 ≤ (a0n : Int) ∧ (a0n : Int) ≤ (x44c : Int) ∧
          st w11 (((⟨b4, 0, none⟩ : Addr).add 0).add 0) (.slice (slA x44 x44c 0 3) ((Int.toNat (a0n : Int)) - 0) (x44c - 0)) fun w16 =>
          ldC w16 ((⟨b4, 0, none⟩ : Addr).add 0) fun x46 x46n x46c =>
          ldC w16 ((⟨b4, 0, none⟩ : Addr).add 1) fun x47 x47n x47c =>
          ldC w16 ((⟨b4, 0, none⟩ : Addr).add 2) fun x48 x48n x48c =>
          st w16 ((⟨b2, 0, none⟩ : Addr).add 0) (.slice x46 x46n x46c) fun w17 =>
          st w17 ((⟨b2, 0, none⟩ : Addr).add 1) (.slice x47 x47n x47c) fun w18 =>
          st w18 ((⟨b2, 0, none⟩ : Addr).add 2) (.slice x48 x48n x48c) fun w19 =>
          ldC w19 ((⟨b2, 0, none⟩ : Addr).add 0) fun x49 x49n x49c =>
          ldC w19 ((⟨b2, 0, none⟩ : Addr).add 1) fun x50 x50n x50c =>
          ldC w19 ((⟨b2, 0, none⟩ : Addr).add 2) fun x51 x51n x51c =>
          R (.agg #[.slice x49 x49n x49c, .slice x50 x50n x50c, .slice x51 x51n x51c]) w19)) (0, ()) w3)) (0, ()) w2
def An26 : An := .seq (.leaf) (.seq (.leaf) (.seq (.seq (.leaf) (.blk (.loop [(4, .one (.int .i64))] (.seq (.seq (.leaf) (.cond (.leaf) (.leaf))) (.seq (.blk (.seq (.leaf) (.seq (.leaf) (.draw [0, 1, 0, 0, 12, 28, 60, 0, 0, 384, 896, 1920, 0, 0, 0, 24576, 57344, 122880, 253952, 520192, 1048572, 2097148, 4194303, 8388607, 16777215])))) (.leaf)))))) (.seq (.seq (.leaf) (.blk (.loop [(6, .one (.int .i64))] (.seq (.seq (.leaf) (.cond (.leaf) (.leaf))) (.seq (.blk (.draw [0, 1, 0, 4, 12, 28, 63, 127, 255])) (.leaf)))))) (.seq (.leaf) (.seq (.leaf) (.leaf))))))
theorem V26_eq (a0 : Option Addr) (a0n : Nat) (a0c : Nat) (w : World) (R : Value → World → Prop) : evF Try.prog Try.f26 An26 [.slice a0 a0n a0c] w R = V26 a0 a0n a0c w R := by kernel_rfl
theorem V26_calls (a0 : Option Addr) (a0n : Nat) (a0c : Nat) (w : World) (R : Value → World → Prop) (h : V26 a0 a0n a0c w R) : Calls Try.prog 26 #[.slice a0 a0n a0c] w fun e w' => ∃ v, e = .returned v ∧ R v w' :=
  calls_of_ev (args := [.slice a0 a0n a0c]) Try.func26 (Nat.le_of_ble_eq_true (by kernel_rfl)) (by rw [V26_eq]; exact h)
theorem ok26 : fnOk Try.prog 26 = true := by kernel_rfl

/-! depot/depotkit.Lent -/
def V27 (a0 : Option Addr) (a0n : Nat) (a0c : Nat) (w : World) (R : Value → World → Prop) : Prop :=
  lp (σ := (Option Addr × Nat × Nat) × Int × Unit) (fun s7 w1 k6 => match s7 with
    | ((v4, v4n, v4c), v5, _) =>
    pif (decide (v5 < (a0n : Int))) (
      ixA a0 a0n v5 1 fun p10 =>
      ldI .i64 w1 p10 fun x11 =>
      alc w1 [.int .i64 x11] 3 fun b12 w2 =>
      ∃ (x13 : Option Addr) (x13n x13c : Nat), ∃ w3 : World, (Builtin.append_ #[25, 25] 25 #[.slice v4 v4n v4c, .slice (some (⟨b12, 0, none⟩ : Addr)) 1 1]).run Try.prog w2 = .ok (.slice x13 x13n x13c) w3 ∧
      k6 ((x13, x13n, x13c), (IntKind.wrap .i64 (v5 + 1)), ()) w3) (
      lp (σ := (Option Addr × Nat × Nat) × Int × Unit) (fun s19 w4 k18 => match s19 with
        | ((v16, v16n, v16c), v17, _) =>
        pif (decide (v17 < 64)) (
          cl Try.prog 54 [.int .i64 0, .int .i64 v17] w4 fun e23 w5 => ∃ x22 : Int, e23 = Ending.returned (.int .i64 x22) ∧
          alc w5 [.int .i64 x22] 3 fun b24 w6 =>
          ∃ (x25 : Option Addr) (x25n x25c : Nat), ∃ w7 : World, (Builtin.append_ #[25, 25] 25 #[.slice v16 v16n v16c, .slice (some (⟨b24, 0, none⟩ : Addr)) 1 1]).run Try.prog w6 = .ok (.slice x25 x25n x25c) w7 ∧
          k18 ((x25, x25n, x25c), (IntKind.wrap .i64 (v17 + 1)), ()) w7) (
          R (.slice v16 v16n v16c) w4)) ((v4, v4n, v4c), 0, ()) w1)) ((none, 0, 0), 0, ()) w
def An27 : An := .seq (.leaf) (.seq (.leaf) (.seq (.seq (.leaf) (.blk (.loop [(3, .one (.slc)), (4, .one (.int .i64))] (.seq (.seq (.leaf) (.cond (.leaf) (.leaf))) (.seq (.blk (.leaf)) (.leaf)))))) (.seq (.seq (.leaf) (.blk (.loop [(3, .one (.slc)), (5, .one (.int .i64))] (.seq (.seq (.leaf) (.cond (.leaf) (.leaf))) (.seq (.blk (.leaf)) (.leaf)))))) (.seq (.leaf) (.leaf)))))
theorem V27_eq (a0 : Option Addr) (a0n : Nat) (a0c : Nat) (w : World) (R : Value → World → Prop) : evF Try.prog Try.f27 An27 [.slice a0 a0n a0c] w R = V27 a0 a0n a0c w R := by kernel_rfl
theorem V27_calls (a0 : Option Addr) (a0n : Nat) (a0c : Nat) (w : World) (R : Value → World → Prop) (h : V27 a0 a0n a0c w R) : Calls Try.prog 27 #[.slice a0 a0n a0c] w fun e w' => ∃ v, e = .returned v ∧ R v w' :=
  calls_of_ev (args := [.slice a0 a0n a0c]) Try.func27 (Nat.le_of_ble_eq_true (by kernel_rfl)) (by rw [V27_eq]; exact h)
theorem ok27 : fnOk Try.prog 27 = true := by kernel_rfl

/-! depot/depotkit.KeptEntries -/
def V28 (a0_0 : Option Addr) (a0_0n : Nat) (a0_0c : Nat) (a0_1 : Option Addr) (a0_1n : Nat) (a0_1c : Nat) (a0_2 : Option Addr) (a0_2n : Nat) (a0_2c : Nat) (a1 : Option Addr) (a1n : Nat) (a1c : Nat) (w : World) (R : Value → World → Prop) : Prop :=
  alc w [.slice a0_0 a0_0n a0_0c, .slice a0_1 a0_1n a0_1c, .slice a0_2 a0_2n a0_2c] 45 fun b2 w1 =>
  ldC w1 ((⟨b2, 0, none⟩ : Addr).add 1) fun x4 x4n x4c =>
  gd (α := (Option Addr × Nat × Nat)) (!((x4n : Int) != (IntKind.wrap .i64 ((a1n : Int) + 64)))) (fun k5 =>
    ldC w1 ((⟨b2, 0, none⟩ : Addr).add 2) fun x6 x6n x6c =>
    k5 (x6, x6n, x6c) w1) (none, 0, 0) w1 fun x7 w2 =>
  pif (cond ((x4n : Int) != (IntKind.wrap .i64 ((a1n : Int) + 64))) true ((x7.2.1 : Int) != (a1n : Int))) (
    R (.bool false) w2) (
    lp (σ := Int × Unit) (fun s12 w3 k11 => match s12 with
      | (v10, _) =>
      pif (decide (v10 < (a1n : Int))) (
        ldC w3 ((⟨b2, 0, none⟩ : Addr).add 1) fun x15 x15n x15c =>
        ixA x15 x15n v10 3 fun p16 =>
        ldI .i64 w3 (p16.add 0) fun x17 =>
        ldI .i64 w3 (p16.add 1) fun x18 =>
        ldC w3 (p16.add 2) fun x19 x19n x19c =>
        alc w3 [.int .i64 0, .int .i64 0, .slice none 0 0] 54 fun b20 w4 =>
        st w4 ((⟨b20, 0, none⟩ : Addr).add 0) (.int .i64 x17) fun w5 =>
        st w5 ((⟨b20, 0, none⟩ : Addr).add 1) (.int .i64 x18) fun w6 =>
        st w6 ((⟨b20, 0, none⟩ : Addr).add 2) (.slice x19 x19n x19c) fun w7 =>
        ldI .i64 (World.drew w7) ((⟨b20, 0, none⟩ : Addr).add 0) fun x21 =>
        ixA a1 a1n v10 3 fun p22 =>
        ldI .i64 (World.drew w7) (p22.add 0) fun x23 =>
        gd (α := Int) (!(x21 != x23)) (fun k24 =>
          ldI .i64 (World.drew w7) ((⟨b20, 0, none⟩ : Addr).add 1) fun x25 =>
          k24 x25 (World.drew w7)) 0 (World.drew w7) fun x26 _ =>
        gd (α := Addr) (!(x21 != x23)) (fun k27 =>
          ixA a1 a1n v10 3 fun p28 =>
          k27 p28 (World.drew w7)) ⟨0, 0, none⟩ (World.drew w7) fun x29 _ =>
        gd (α := Int) (!(x21 != x23)) (fun k30 =>
          ldI .i64 (World.drew w7) (x29.add 1) fun x31 =>
          k30 x31 (World.drew w7)) 0 (World.drew w7) fun x32 _ =>
        gd (α := (Option Addr × Nat × Nat)) (!(cond (x21 != x23) true (x26 != x32))) (fun k33 =>
          ldC (World.drew w7) ((⟨b20, 0, none⟩ : Addr).add 2) fun x34 x34n x34c =>
          k33 (x34, x34n, x34c) (World.drew w7)) (none, 0, 0) (World.drew w7) fun x35 _ =>
        gd (α := Addr) (!(cond (x21 != x23) true (x26 != x32))) (fun k36 =>
          ixA a1 a1n v10 3 fun p37 =>
          k36 p37 (World.drew w7)) ⟨0, 0, none⟩ (World.drew w7) fun x38 _ =>
        gd (α := (Option Addr × Nat × Nat)) (!(cond (x21 != x23) true (x26 != x32))) (fun k39 =>
          ldC (World.drew w7) (x38.add 2) fun x40 x40n x40c =>
          k39 (x40, x40n, x40c) (World.drew w7)) (none, 0, 0) (World.drew w7) fun x41 _ =>
        gd (α := (Option Addr × Nat × Nat)) (!(cond (cond (x21 != x23) true (x26 != x32)) true ((x35.2.1 : Int) != (x41.2.1 : Int)))) (fun k42 =>
          ldC (World.drew w7) ((⟨b2, 0, none⟩ : Addr).add 2) fun x43 x43n x43c =>
          k42 (x43, x43n, x43c) (World.drew w7)) (none, 0, 0) (World.drew w7) fun x44 _ =>
        gd (α := Addr) (!(cond (cond (x21 != x23) true (x26 != x32)) true ((x35.2.1 : Int) != (x41.2.1 : Int)))) (fun k45 =>
          ixA x44.1 x44.2.1 v10 1 fun p46 =>
          k45 p46 (World.drew w7)) ⟨0, 0, none⟩ (World.drew w7) fun x47 _ =>
        gd (α := (Option Addr × Nat × Nat)) (!(cond (cond (x21 != x23) true (x26 != x32)) true ((x35.2.1 : Int) != (x41.2.1 : Int)))) (fun k48 =>
          ldC (World.drew w7) x47 fun x49 x49n x49c =>
          k48 (x49, x49n, x49c) (World.drew w7)) (none, 0, 0) (World.drew w7) fun x50 _ =>
        gd (α := Addr) (!(cond (cond (x21 != x23) true (x26 != x32)) true ((x35.2.1 : Int) != (x41.2.1 : Int)))) (fun k51 =>
          ixA a1 a1n v10 3 fun p52 =>
          k51 p52 (World.drew w7)) ⟨0, 0, none⟩ (World.drew w7) fun x53 _ =>
        gd (α := (Option Addr × Nat × Nat)) (!(cond (cond (x21 != x23) true (x26 != x32)) true ((x35.2.1 : Int) != (x41.2.1 : Int)))) (fun k54 =>
          ldC (World.drew w7) (x53.add 2) fun x55 x55n x55c =>
          k54 (x55, x55n, x55c) (World.drew w7)) (none, 0, 0) (World.drew w7) fun x56 _ =>
        gd (α := Bool) (!(cond (cond (x21 != x23) true (x26 != x32)) true ((x35.2.1 : Int) != (x41.2.1 : Int)))) (fun k57 =>
          cl Try.prog 29 [.slice x50.1 x50.2.1 x50.2.2, .slice x56.1 x56.2.1 x56.2.2] (World.drew w7) fun e59 w8 => ∃ x58 : Bool, e59 = Ending.returned (.bool x58) ∧
          k57 x58 w8) false (World.drew w7) fun x60 w9 =>
        pif (cond (cond (cond (x21 != x23) true (x26 != x32)) true ((x35.2.1 : Int) != (x41.2.1 : Int))) true (!x60)) (
          R (.bool false) w9) (
          lp (σ := Int × Unit) (fun s65 w10 k64 => match s65 with
            | (v63, _) =>
            ldC w10 ((⟨b20, 0, none⟩ : Addr).add 2) fun x67 x67n x67c =>
            pif (decide (v63 < (x67n : Int))) (
              ldC (World.drew w10) ((⟨b20, 0, none⟩ : Addr).add 2) fun x68 x68n x68c =>
              ixA x68 x68n v63 1 fun p69 =>
              ldI .i64 (World.drew w10) p69 fun x70 =>
              ixA a1 a1n v10 3 fun p71 =>
              ldC (World.drew w10) (p71.add 2) fun x72 x72n x72c =>
              ixA x72 x72n v63 1 fun p73 =>
              ldI .i64 (World.drew w10) p73 fun x74 =>
              pif (x70 != x74) (
                R (.bool false) (World.drew w10)) (
                k64 ((IntKind.wrap .i64 (v63 + 1)), ()) (World.drew w10))) (
              k11 ((IntKind.wrap .i64 (v10 + 1)), ()) w10)) (0, ()) w9)) (
        lp (σ := Int × Unit) (fun s81 w11 k80 => match s81 with
          | (v79, _) =>
          pif (decide (v79 < 64)) (
            ldC w11 ((⟨b2, 0, none⟩ : Addr).add 1) fun x84 x84n x84c =>
            ixA x84 x84n (IntKind.wrap .i64 ((a1n : Int) + v79)) 3 fun p85 =>
            ldI .i64 w11 (p85.add 0) fun x86 =>
            ldI .i64 w11 (p85.add 1) fun x87 =>
            ldC w11 (p85.add 2) fun x88 x88n x88c =>
            alc w11 [.int .i64 0, .int .i64 0, .slice none 0 0] 54 fun b89 w12 =>
            st w12 ((⟨b89, 0, none⟩ : Addr).add 0) (.int .i64 x86) fun w13 =>
            st w13 ((⟨b89, 0, none⟩ : Addr).add 1) (.int .i64 x87) fun w14 =>
            st w14 ((⟨b89, 0, none⟩ : Addr).add 2) (.slice x88 x88n x88c) fun w15 =>
            ldI .i64 (World.drew w15) ((⟨b89, 0, none⟩ : Addr).add 0) fun x90 =>
            cl Try.prog 54 [.int .i64 1, .int .i64 v79] (World.drew w15) fun e92 w16 => ∃ x91 : Int, e92 = Ending.returned (.int .i64 x91) ∧
            (
              ldI .i64 w16 ((⟨b89, 0, none⟩ : Addr).add 0) fun x93 =>
              ((.int .i64 x93 : Value) = .int .i64 x90)) ∧
            gd (α := Int) (!(x90 != x91)) (fun k94 =>
              ldI .i64 w16 ((⟨b89, 0, none⟩ : Addr).add 1) fun x95 =>
              k94 x95 w16) 0 w16 fun x96 _ =>
            gd (α := (Option Addr × Nat × Nat)) (!(cond (x90 != x91) true (x96 != 0))) (fun k97 =>
              ldC w16 ((⟨b89, 0, none⟩ : Addr).add 2) fun x98 x98n x98c =>
              k97 (x98, x98n, x98c) w16) (none, 0, 0) w16 fun x99 _ =>
            pif (cond (cond (x90 != x91) true (x96 != 0)) true ((x99.2.1 : Int) != 0)) (
              R (.bool false) w16) (
              k80 ((IntKind.wrap .i64 (v79 + 1)), ()) w16)) (
            R (.bool true) w11)) (0, ()) w3)) (0, ()) w2)
def An28 : An := .seq (.leaf) (.seq (.seq (.leaf) (.cond (.seq (.leaf) (.leaf)) (.leaf))) (.seq (.seq (.leaf) (.blk (.loop [(5, .one (.int .i64))] (.seq (.seq (.leaf) (.cond (.leaf) (.leaf))) (.seq (.blk (.seq (.leaf) (.seq (.seq (.draw [0, 1, 0, 0, 12, 28, 60, 127, 255, 511, 1023, 511, 511, 6655, 14847, 31231, 65535, 131071, 262143, 524287, 1048575, 2097151, 524287, 524287, 13107199, 29884415, 63438847, 130547711, 268435455, 536870911, 1073741823, 2147483647, 4294967295, 2147483647, 17179869183, 34359738367, 2147483647, 2147483647, 208305913855, 483183820799, 1032939634687, 2199023255551, 4398046511103, 8796093022207]) (.cond (.seq (.leaf) (.leaf)) (.leaf))) (.seq (.leaf) (.blk (.loop [(7, .one (.int .i64))] (.seq (.seq (.leaf) (.cond (.leaf) (.leaf))) (.seq (.blk (.seq (.draw [0, 1, 0, 7, 15, 0, 0, 96, 224, 480, 0, 2016, 4064, 8191]) (.cond (.seq (.leaf) (.leaf)) (.leaf)))) (.leaf))))))))) (.leaf)))))) (.seq (.seq (.leaf) (.blk (.loop [(8, .one (.int .i64))] (.seq (.seq (.leaf) (.cond (.leaf) (.leaf))) (.seq (.blk (.seq (.leaf) (.seq (.draw [0, 1, 0, 4, 15, 31, 63, 127, 255, 511, 1023, 2047, 4095, 8191, 16383, 32767]) (.cond (.seq (.leaf) (.leaf)) (.leaf))))) (.leaf)))))) (.seq (.leaf) (.leaf)))))
theorem V28_eq (a0_0 : Option Addr) (a0_0n : Nat) (a0_0c : Nat) (a0_1 : Option Addr) (a0_1n : Nat) (a0_1c : Nat) (a0_2 : Option Addr) (a0_2n : Nat) (a0_2c : Nat) (a1 : Option Addr) (a1n : Nat) (a1c : Nat) (w : World) (R : Value → World → Prop) : evF Try.prog Try.f28 An28 [.agg #[.slice a0_0 a0_0n a0_0c, .slice a0_1 a0_1n a0_1c, .slice a0_2 a0_2n a0_2c], .slice a1 a1n a1c] w R = V28 a0_0 a0_0n a0_0c a0_1 a0_1n a0_1c a0_2 a0_2n a0_2c a1 a1n a1c w R := by kernel_rfl
theorem V28_calls (a0_0 : Option Addr) (a0_0n : Nat) (a0_0c : Nat) (a0_1 : Option Addr) (a0_1n : Nat) (a0_1c : Nat) (a0_2 : Option Addr) (a0_2n : Nat) (a0_2c : Nat) (a1 : Option Addr) (a1n : Nat) (a1c : Nat) (w : World) (R : Value → World → Prop) (h : V28 a0_0 a0_0n a0_0c a0_1 a0_1n a0_1c a0_2 a0_2n a0_2c a1 a1n a1c w R) : Calls Try.prog 28 #[.agg #[.slice a0_0 a0_0n a0_0c, .slice a0_1 a0_1n a0_1c, .slice a0_2 a0_2n a0_2c], .slice a1 a1n a1c] w fun e w' => ∃ v, e = .returned v ∧ R v w' :=
  calls_of_ev (args := [.agg #[.slice a0_0 a0_0n a0_0c, .slice a0_1 a0_1n a0_1c, .slice a0_2 a0_2n a0_2c], .slice a1 a1n a1c]) Try.func28 (Nat.le_of_ble_eq_true (by kernel_rfl)) (by rw [V28_eq]; exact h)
theorem ok28 : fnOk Try.prog 28 = true := by kernel_rfl

/-! depot/depotkit.Kept -/
def V29 (a0 : Option Addr) (a0n : Nat) (a0c : Nat) (a1 : Option Addr) (a1n : Nat) (a1c : Nat) (w : World) (R : Value → World → Prop) : Prop :=
  pif ((a0n : Int) != (IntKind.wrap .i64 ((a1n : Int) + 64))) (
    R (.bool false) w) (
    lp (σ := Int × Unit) (fun s7 w1 k6 => match s7 with
      | (v5, _) =>
      pif (decide (v5 < (a1n : Int))) (
        ixA a0 a0n v5 1 fun p9 =>
        ldI .i64 (World.drew w1) p9 fun x10 =>
        ixA a1 a1n v5 1 fun p11 =>
        ldI .i64 (World.drew w1) p11 fun x12 =>
        pif (x10 != x12) (
          R (.bool false) (World.drew w1)) (
          k6 ((IntKind.wrap .i64 (v5 + 1)), ()) (World.drew w1))) (
        lp (σ := Int × Unit) (fun s18 w2 k17 => match s18 with
          | (v16, _) =>
          pif (decide (v16 < 64)) (
            ixA a0 a0n (IntKind.wrap .i64 ((a1n : Int) + v16)) 1 fun p20 =>
            ldI .i64 (World.drew w2) p20 fun x21 =>
            cl Try.prog 54 [.int .i64 0, .int .i64 v16] (World.drew w2) fun e23 w3 => ∃ x22 : Int, e23 = Ending.returned (.int .i64 x22) ∧
            (
              ldI .i64 w3 p20 fun x24 =>
              ((.int .i64 x24 : Value) = .int .i64 x21)) ∧
            pif (x21 != x22) (
              R (.bool false) w3) (
              k17 ((IntKind.wrap .i64 (v16 + 1)), ()) w3)) (
            R (.bool true) w2)) (0, ()) w1)) (0, ()) w)
def An29 : An := .seq (.leaf) (.seq (.seq (.leaf) (.cond (.seq (.leaf) (.leaf)) (.leaf))) (.seq (.seq (.leaf) (.blk (.loop [(5, .one (.int .i64))] (.seq (.seq (.leaf) (.cond (.leaf) (.leaf))) (.seq (.blk (.seq (.draw [0, 0, 3, 7, 0, 0, 48, 112, 255]) (.cond (.seq (.leaf) (.leaf)) (.leaf)))) (.leaf)))))) (.seq (.seq (.leaf) (.blk (.loop [(6, .one (.int .i64))] (.seq (.seq (.leaf) (.cond (.leaf) (.leaf))) (.seq (.blk (.seq (.draw [0, 0, 2, 0, 14, 31, 63, 0, 128, 511]) (.cond (.seq (.leaf) (.leaf)) (.leaf)))) (.leaf)))))) (.seq (.leaf) (.leaf)))))
theorem V29_eq (a0 : Option Addr) (a0n : Nat) (a0c : Nat) (a1 : Option Addr) (a1n : Nat) (a1c : Nat) (w : World) (R : Value → World → Prop) : evF Try.prog Try.f29 An29 [.slice a0 a0n a0c, .slice a1 a1n a1c] w R = V29 a0 a0n a0c a1 a1n a1c w R := by kernel_rfl
theorem V29_calls (a0 : Option Addr) (a0n : Nat) (a0c : Nat) (a1 : Option Addr) (a1n : Nat) (a1c : Nat) (w : World) (R : Value → World → Prop) (h : V29 a0 a0n a0c a1 a1n a1c w R) : Calls Try.prog 29 #[.slice a0 a0n a0c, .slice a1 a1n a1c] w fun e w' => ∃ v, e = .returned v ∧ R v w' :=
  calls_of_ev (args := [.slice a0 a0n a0c, .slice a1 a1n a1c]) Try.func29 (Nat.le_of_ble_eq_true (by kernel_rfl)) (by rw [V29_eq]; exact h)
theorem ok29 : fnOk Try.prog 29 = true := by kernel_rfl

/-! depot/depotkit.OverEntries -/
def V30 (a0_0 : Option Addr) (a0_0n : Nat) (a0_0c : Nat) (a0_1 : Option Addr) (a0_1n : Nat) (a0_1c : Nat) (a0_2 : Option Addr) (a0_2n : Nat) (a0_2c : Nat) (w : World) (R : Value → World → Prop) : Prop :=
  alc w [.slice a0_0 a0_0n a0_0c, .slice a0_1 a0_1n a0_1c, .slice a0_2 a0_2n a0_2c] 45 fun b2 w1 =>
  lp (σ := Int × Unit) (fun s6 w2 k5 => match s6 with
    | (v4, _) =>
    ldC w2 ((⟨b2, 0, none⟩ : Addr).add 2) fun x8 x8n x8c =>
    pif (decide (v4 < (x8n : Int))) (
      ldC w2 ((⟨b2, 0, none⟩ : Addr).add 2) fun x10 x10n x10c =>
      ixA x10 x10n v4 1 fun p11 =>
      ldC w2 p11 fun x12 x12n x12c =>
      cl Try.prog 31 [.slice x12 x12n x12c] w2 fun e13 w3 => e13 = Ending.returned (.tuple #[]) ∧
      k5 ((IntKind.wrap .i64 (v4 + 1)), ()) w3) (
      lp (σ := Int × Unit) (fun s18 w4 k17 => match s18 with
        | (v16, _) =>
        ldC w4 ((⟨b2, 0, none⟩ : Addr).add 1) fun x20 x20n x20c =>
        pif (decide (v16 < (x20n : Int))) (
          ldC w4 ((⟨b2, 0, none⟩ : Addr).add 1) fun x22 x22n x22c =>
          ixA x22 x22n v16 3 fun p23 =>
          st w4 (p23.add 0) (.int .i64 1) fun w5 =>
          st w5 (p23.add 1) (.int .i64 (Int.tmod v16 2)) fun w6 =>
          st w6 (p23.add 2) (.slice none 0 0) fun w7 =>
          k17 ((IntKind.wrap .i64 (v16 + 1)), ()) w7) (
          R (.tuple #[]) w4)) (0, ()) w2)) (0, ()) w1
def An30 : An := .seq (.leaf) (.seq (.seq (.leaf) (.blk (.loop [(2, .one (.int .i64))] (.seq (.seq (.leaf) (.cond (.leaf) (.leaf))) (.seq (.blk (.leaf)) (.leaf)))))) (.seq (.leaf) (.blk (.loop [(3, .one (.int .i64))] (.seq (.seq (.leaf) (.cond (.leaf) (.leaf))) (.seq (.blk (.leaf)) (.leaf)))))))
theorem V30_eq (a0_0 : Option Addr) (a0_0n : Nat) (a0_0c : Nat) (a0_1 : Option Addr) (a0_1n : Nat) (a0_1c : Nat) (a0_2 : Option Addr) (a0_2n : Nat) (a0_2c : Nat) (w : World) (R : Value → World → Prop) : evF Try.prog Try.f30 An30 [.agg #[.slice a0_0 a0_0n a0_0c, .slice a0_1 a0_1n a0_1c, .slice a0_2 a0_2n a0_2c]] w R = V30 a0_0 a0_0n a0_0c a0_1 a0_1n a0_1c a0_2 a0_2n a0_2c w R := by kernel_rfl
theorem V30_calls (a0_0 : Option Addr) (a0_0n : Nat) (a0_0c : Nat) (a0_1 : Option Addr) (a0_1n : Nat) (a0_1c : Nat) (a0_2 : Option Addr) (a0_2n : Nat) (a0_2c : Nat) (w : World) (R : Value → World → Prop) (h : V30 a0_0 a0_0n a0_0c a0_1 a0_1n a0_1c a0_2 a0_2n a0_2c w R) : Calls Try.prog 30 #[.agg #[.slice a0_0 a0_0n a0_0c, .slice a0_1 a0_1n a0_1c, .slice a0_2 a0_2n a0_2c]] w fun e w' => ∃ v, e = .returned v ∧ R v w' :=
  calls_of_ev (args := [.agg #[.slice a0_0 a0_0n a0_0c, .slice a0_1 a0_1n a0_1c, .slice a0_2 a0_2n a0_2c]]) Try.func30 (Nat.le_of_ble_eq_true (by kernel_rfl)) (by rw [V30_eq]; exact h)
theorem ok30 : fnOk Try.prog 30 = true := by kernel_rfl

/-! depot/depotkit.Over -/
def V31 (a0 : Option Addr) (a0n : Nat) (a0c : Nat) (w : World) (R : Value → World → Prop) : Prop :=
  lp (σ := Int × Unit) (fun s4 w1 k3 => match s4 with
    | (v2, _) =>
    pif (decide (v2 < (a0n : Int))) (
      ixA a0 a0n v2 1 fun p7 =>
      st w1 (p7.add 0) (.int .i64 (IntKind.wrap .i64 (1 - (Int.tmod v2 3)))) fun w2 =>
      k3 ((IntKind.wrap .i64 (v2 + 1)), ()) w2) (
      R (.tuple #[]) w1)) (0, ()) w
def An31 : An := .seq (.leaf) (.blk (.loop [(2, .one (.int .i64))] (.seq (.seq (.leaf) (.cond (.leaf) (.leaf))) (.seq (.blk (.leaf)) (.leaf)))))
theorem V31_eq (a0 : Option Addr) (a0n : Nat) (a0c : Nat) (w : World) (R : Value → World → Prop) : evF Try.prog Try.f31 An31 [.slice a0 a0n a0c] w R = V31 a0 a0n a0c w R := by kernel_rfl
theorem V31_calls (a0 : Option Addr) (a0n : Nat) (a0c : Nat) (w : World) (R : Value → World → Prop) (h : V31 a0 a0n a0c w R) : Calls Try.prog 31 #[.slice a0 a0n a0c] w fun e w' => ∃ v, e = .returned v ∧ R v w' :=
  calls_of_ev (args := [.slice a0 a0n a0c]) Try.func31 (Nat.le_of_ble_eq_true (by kernel_rfl)) (by rw [V31_eq]; exact h)
theorem ok31 : fnOk Try.prog 31 = true := by kernel_rfl

end Go.Proofs.Ytlbpllpomdjooaa.T
