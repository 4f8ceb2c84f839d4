/- The conditions under which the functions printed here return, as propositions over typed values; each is the machine's own, by the generator's theorem. -/

import Derived.Test.YtmhjehodfggleaaGreatProg
import Derived.Test.YtmhjehodfggleaaGreatMTTrail
import Derived.Test.YtmhjehodfggleaaGreatMEngR
import Derived.Test.YtmhjehodfggleaaGreatMEng21
import Derived.Test.YtmhjehodfggleaaGreatMSort2
import Derived.Test.YtmhjehodfggleaaGreatMEng11
set_option linter.unusedVariables false
set_option maxRecDepth 100000
namespace Go.Proofs.YtmhjehodfggleaaGreat.T
open Go Go.Proofs.YtmhjehodfggleaaGreat.Vc
def V5 (a0_0:Int) (a0_1:Option Addr) (a0_1n:Nat) (a0_1c:Nat) (a1:Option Addr) (a1n:Nat) (a1c:Nat) (a2:Option Addr) (a2n:Nat) (a2c:Nat) (w:World) (R:Value→World→Prop):Prop:=
 alc w [.int .i64 a0_0,.slice a0_1 a0_1n a0_1c] 24 fun b2 w1=>
 ldI .i64 w1 ((⟨b2,0,none⟩:Addr).add 0) fun x4=>
 alc w1 [.int .i64 0,.slice none 0 0] 24 fun b5 w2=>
 st w2 ((⟨b5,0,none⟩:Addr).add 0) (.int .i64 x4) fun w3=>
 st w3 ((⟨b5,0,none⟩:Addr).add 1) (.slice none 0 0) fun w4=>
 lp (σ:=Int×Unit) (fun s9 w5 k8=>match s9 with
  | (v7,_)=>
  ldC w5 ((⟨b2,0,none⟩:Addr).add 1) fun x11 x11n x11c=>
  pif (decide (v7<(x11n:Int))) (
   jn (σ:=Unit) (fun k12=>
    ldC w5 ((⟨b2,0,none⟩:Addr).add 1) fun x15 x15n x15c=>
    ixA x15 x15n v7 1 fun p16=>
    ldC w5 p16 fun x17 x17n x17c=>
    cl Tryz.prog 20 [.slice a1 a1n a1c,.slice x17 x17n x17c] w5 fun e19 w7=>∃x18:Bool,e19=Ending.returned (.bool x18)∧
    pif x18 (
     ldC (World.drew w7) ((⟨b5,0,none⟩:Addr).add 1) fun x20 x20n x20c=>
     ldC (World.drew w7) ((⟨b2,0,none⟩:Addr).add 1) fun x21 x21n x21c=>
     ixA x21 x21n v7 1 fun p22=>
     ldC (World.drew w7) p22 fun x23 x23n x23c=>
     cl Tryz.prog 21 [.slice x23 x23n x23c] (World.drew w7) fun e25 w8=>∃(x24:Option Addr) (x24n x24c:Nat),e25=Ending.returned (.slice x24 x24n x24c)∧
     (
      ldC w8 ((⟨b5,0,none⟩:Addr).add 1) fun x26 x26n x26c=>
      ((.slice x26 x26n x26c:Value)=.slice x20 x20n x20c))∧
     alc w8 [.slice x24 x24n x24c] 49 fun b27 w9=>
     (
      ldC w9 ((⟨b5,0,none⟩:Addr).add 1) fun x28 x28n x28c=>
      ((.slice x28 x28n x28c:Value)=.slice x20 x20n x20c))∧
     ∃(x29:Option Addr) (x29n x29c:Nat),∃w10:World,(Builtin.append_ #[22,22] 22 #[.slice x20 x20n x20c,.slice (some (⟨b27,0,none⟩:Addr)) 1 1]).run Tryz.prog w9=.ok (.slice x29 x29n x29c) w10∧
     st w10 (((⟨b5,0,none⟩:Addr).add 1).add 0) (.slice x29 x29n x29c) fun w11=>
     k12 (()) w11) (
     k12 (()) w7)) fun s13 w6=>match s13 with
   | (_)=>
   k8 ((IntKind.wrap .i64 (v7+1)),()) w6) (
   ldI .i64 w5 ((⟨b5,0,none⟩:Addr).add 0) fun x32=>
   ldC w5 ((⟨b5,0,none⟩:Addr).add 1) fun x33 x33n x33c=>
   cl Tryz.prog 12 [.agg #[.int .i64 x32,.slice x33 x33n x33c]] w5 fun e36 w12=>∃x34:Int,∃(x35:Option Addr) (x35n x35c:Nat),e36=Ending.returned (.agg #[.int .i64 x34,.slice x35 x35n x35c])∧
   cl Tryz.prog 9 [.agg #[.int .i64 x34,.slice x35 x35n x35c]] w12 fun e39 w13=>∃x37:Option Addr,∃x38:Int,e39=Ending.returned (.tuple #[.pointer x37,.int .i64 x38])∧
   pif (cond (x38 != 0) true (Option.isNone x37)) (
    R (.bool (cond (x38==1) (Option.isNone x37) false)) w13) (
    lp (σ:=Int×Unit) (fun s45 w14 k44=>match s45 with
     | (v43,_)=>
     pif (decide (v43<(a2n:Int))) (
      ldI .i64 (World.drew w14) ((⟨b2,0,none⟩:Addr).add 0) fun x47=>
      ixA a2 a2n v43 4 fun p48=>
      ldI .i64 (World.drew w14) (p48.add 0) fun x49=>
      ldI .i64 (World.drew w14) (p48.add 1) fun x50=>
      ldI .i64 (World.drew w14) (p48.add 2) fun x51=>
      ldB (World.drew w14) (p48.add 3) fun x52=>
      cl Tryz.prog 16 [.pointer x37,.int .i64 x47,.agg #[.int .i64 x49,.int .i64 x50,.int .i64 x51,.bool x52]] (World.drew w14) fun e53 w15=>e53=Ending.returned (.tuple #[])∧
      cl Tryz.prog 22 [.pointer x37] w15 fun e56 w16=>∃x55:Bool,e56=Ending.returned (.bool x55)∧
      pif x55 (
       R (.bool false) w16) (
       cl Tryz.prog 23 [.pointer x37] w16 fun e60 w17=>∃(x59:Option Addr) (x59n x59c:Nat),e60=Ending.returned (.slice x59 x59n x59c)∧
       lp (σ:=Int×Unit) (fun s64 w18 k63=>match s64 with
        | (v62,_)=>
        pif (decide (v62<(x59n:Int))) (
         ixA x59 x59n v62 1 fun p67=>
         ldC w18 p67 fun x68 x68n x68c=>
         cl Tryz.prog 20 [.slice a1 a1n a1c,.slice x68 x68n x68c] w18 fun e70 w19=>∃x69:Bool,e70=Ending.returned (.bool x69)∧
         pif (!x69) (
          R (.bool false) w19) (
          k63 ((IntKind.wrap .i64 (v62+1)),()) w19)) (
         cl Tryz.prog 24 [.pointer x37] w18 fun e76 w20=>∃(x74:Option Addr) (x74n x74c:Nat),∃x75:Bool,e76=Ending.returned (.tuple #[.slice x74 x74n x74c,.bool x75])∧
         gd (α:=(Int×(Option Addr×Nat×Nat)×Unit)) x75 (fun k78=>
          ldI .i64 w20 ((⟨b5,0,none⟩:Addr).add 0) fun x79=>
          ldC w20 ((⟨b5,0,none⟩:Addr).add 1) fun x80 x80n x80c=>
          k78 (x79,(x80,x80n,x80c),()) w20) (0,(none,0,0),()) w20 fun x81 w21=>
         gd (α:=(Int×(Option Addr×Nat×Nat)×Unit)) x75 (fun k82=>
          cl Tryz.prog 12 [.agg #[.int .i64 x81.1,.slice x81.2.1.1 x81.2.1.2.1 x81.2.1.2.2]] w21 fun e85 w22=>∃x83:Int,∃(x84:Option Addr) (x84n x84c:Nat),e85=Ending.returned (.agg #[.int .i64 x83,.slice x84 x84n x84c])∧
          k82 (x83,(x84,x84n,x84c),()) w22) (0,(none,0,0),()) w21 fun x86 w23=>
         gd (α:=Bool) x75 (fun k87=>
          cl Tryz.prog 25 [.agg #[.int .i64 x86.1,.slice x86.2.1.1 x86.2.1.2.1 x86.2.1.2.2],.slice x74 x74n x74c] w23 fun e89 w24=>∃x88:Bool,e89=Ending.returned (.bool x88)∧
          k87 x88 w24) false w23 fun x90 w25=>
         pif (cond x75 (!x90) false) (
          R (.bool false) w25) (
          k44 ((IntKind.wrap .i64 (v43+1)),()) w25))) (0,()) w17)) (
      alc w14 [.int .i64 1] 3 fun b94 w26=>
      alc w26 [.slice (some (⟨b94,0,none⟩:Addr)) 1 1] 49 fun b95 w27=>
      cl Tryz.prog 9 [.agg #[.int .i64 1,.slice (some (⟨b95,0,none⟩:Addr)) 1 1]] w27 fun e98 w28=>∃x96:Option Addr,∃x97:Int,e98=Ending.returned (.tuple #[.pointer x96,.int .i64 x97])∧
      gd (α:=Bool) (!(cond (x97 != 0) true (Option.isNone x96))) (fun k100=>
       cl Tryz.prog 26 [.pointer x96] w28 fun e102 w29=>∃x101:Bool,e102=Ending.returned (.bool x101)∧
       k100 x101 w29) false w28 fun x103 w30=>
      pif (cond (cond (x97 != 0) true (Option.isNone x96)) true (!x103)) (
       R (.bool false) w30) (
       cl Tryz.prog 24 [.pointer x96] w30 fun e108 w31=>∃(x106:Option Addr) (x106n x106c:Nat),∃x107:Bool,e108=Ending.returned (.tuple #[.slice x106 x106n x106c,.bool x107])∧
       gd (α:=Addr) (cond x107 ((x106n:Int)==1) false) (fun k110=>
        ixA x106 x106n 0 1 fun p111=>
        k110 p111 w31) ⟨0,0,none⟩ w31 fun x112 w32=>
       gd (α:=Bool) (cond x107 ((x106n:Int)==1) false) (fun k113=>
        ldB w32 x112 fun x114=>
        k113 x114 w32) false w32 fun x115 w33=>
       R (.bool (cond (cond x107 ((x106n:Int)==1) false) x115 false)) w33))) (0,()) w13))) (0,()) w4
def An5:An:=.seq (.leaf) (.seq (.leaf) (.seq (.seq (.leaf) (.blk (.loop [(8,.one (.int .i64))] (.seq (.seq (.leaf) (.cond (.leaf) (.leaf))) (.seq (.join [] (.blk (.seq (.leaf) (.cond (.draw [0,1,0,4,0,28,60,124,252,511,1023,2047]) (.leaf))))) (.leaf)))))) (.seq (.leaf) (.seq (.seq (.leaf) (.cond (.seq (.leaf) (.leaf)) (.leaf))) (.seq (.seq (.leaf) (.blk (.loop [(11,.one (.int .i64))] (.seq (.seq (.leaf) (.cond (.leaf) (.leaf))) (.seq (.blk (.seq (.draw [0,0,2,0,0,24,56,127]) (.seq (.seq (.leaf) (.cond (.seq (.leaf) (.leaf)) (.leaf))) (.seq (.leaf) (.seq (.seq (.leaf) (.blk (.loop [(13,.one (.int .i64))] (.seq (.seq (.leaf) (.cond (.leaf) (.leaf))) (.seq (.blk (.seq (.leaf) (.cond (.seq (.leaf) (.leaf)) (.leaf)))) (.leaf)))))) (.seq (.leaf) (.seq (.leaf) (.cond (.seq (.leaf) (.leaf)) (.leaf))))))))) (.leaf)))))) (.seq (.leaf) (.seq (.seq (.leaf) (.cond (.seq (.leaf) (.leaf)) (.leaf))) (.seq (.leaf) (.seq (.leaf) (.leaf))))))))))
theorem V5_eq (a0_0:Int) (a0_1:Option Addr) (a0_1n:Nat) (a0_1c:Nat) (a1:Option Addr) (a1n:Nat) (a1c:Nat) (a2:Option Addr) (a2n:Nat) (a2c:Nat) (w:World) (R:Value→World→Prop):evF Tryz.prog Tryz.f5 An5 [.agg #[.int .i64 a0_0,.slice a0_1 a0_1n a0_1c],.slice a1 a1n a1c,.slice a2 a2n a2c] w R=V5 a0_0 a0_1 a0_1n a0_1c a1 a1n a1c a2 a2n a2c w R:=by kernel_rfl
theorem V5_calls (a0_0:Int) (a0_1:Option Addr) (a0_1n:Nat) (a0_1c:Nat) (a1:Option Addr) (a1n:Nat) (a1c:Nat) (a2:Option Addr) (a2n:Nat) (a2c:Nat) (w:World) (R:Value→World→Prop) (h:V5 a0_0 a0_1 a0_1n a0_1c a1 a1n a1c a2 a2n a2c w R):Calls Tryz.prog 5 #[.agg #[.int .i64 a0_0,.slice a0_1 a0_1n a0_1c],.slice a1 a1n a1c,.slice a2 a2n a2c] w fun e w'=>∃v,e=.returned v∧R v w':=
 calls_of_ev (args:=[.agg #[.int .i64 a0_0,.slice a0_1 a0_1n a0_1c],.slice a1 a1n a1c,.slice a2 a2n a2c]) Tryz.func5 (Nat.le_of_ble_eq_true (by kernel_rfl)) (by rw [V5_eq]; exact h)
theorem ok5:fnOk Tryz.prog 5=true:=by kernel_rfl
def V71 (a0:Option Addr) (a0n:Nat) (a0c:Nat) (a1:Int) (w:World) (R:Value→World→Prop):Prop:=
 pif (decide (a1<0)) (
  gd (α:=Addr) (!(decide (a1<(IntKind.wrap .i64 (0 - (a0n:Int)))))) (fun k4=>
   ixA a0 a0n (IntKind.wrap .i64 ((IntKind.wrap .i64 (0 - a1)) - 1)) 1 fun p5=>
   k4 p5 w) ⟨0,0,none⟩ w fun x6 w1=>
  gd (α:=Bool) (!(decide (a1<(IntKind.wrap .i64 (0 - (a0n:Int)))))) (fun k7=>
   ldB w1 x6 fun x8=>
   k7 x8 w1) false w1 fun x9 w2=>
  R (.bool (cond (decide (a1<(IntKind.wrap .i64 (0 - (a0n:Int))))) true (!x9))) w2) (
  gd (α:=Addr) (cond (decide (a1>0)) (decide (a1≤(a0n:Int))) false) (fun k11=>
   ixA a0 a0n (IntKind.wrap .i64 (a1 - 1)) 1 fun p12=>
   k11 p12 w) ⟨0,0,none⟩ w fun x13 w3=>
  gd (α:=Bool) (cond (decide (a1>0)) (decide (a1≤(a0n:Int))) false) (fun k14=>
   ldB w3 x13 fun x15=>
   k14 x15 w3) false w3 fun x16 w4=>
  R (.bool (cond (cond (decide (a1>0)) (decide (a1≤(a0n:Int))) false) x16 false)) w4)
def An71:An:=.seq (.leaf) (.seq (.seq (.leaf) (.cond (.seq (.leaf) (.leaf)) (.leaf))) (.seq (.leaf) (.leaf)))
theorem V71_eq (a0:Option Addr) (a0n:Nat) (a0c:Nat) (a1:Int) (w:World) (R:Value→World→Prop):evF Tryz.prog Tryz.f71 An71 [.slice a0 a0n a0c,.int .i64 a1] w R=V71 a0 a0n a0c a1 w R:=by kernel_rfl
theorem V71_calls (a0:Option Addr) (a0n:Nat) (a0c:Nat) (a1:Int) (w:World) (R:Value→World→Prop) (h:V71 a0 a0n a0c a1 w R):Calls Tryz.prog 71 #[.slice a0 a0n a0c,.int .i64 a1] w fun e w'=>∃v,e=.returned v∧R v w':=
 calls_of_ev (args:=[.slice a0 a0n a0c,.int .i64 a1]) Tryz.func71 (Nat.le_of_ble_eq_true (by kernel_rfl)) (by rw [V71_eq]; exact h)
theorem ok71:fnOk Tryz.prog 71=true:=by kernel_rfl
def V20 (a0:Option Addr) (a0n:Nat) (a0c:Nat) (a1:Option Addr) (a1n:Nat) (a1c:Nat) (w:World) (R:Value→World→Prop):Prop:=
 lp (σ:=Int×Unit) (fun s5 w1 k4=>match s5 with
  | (v3,_)=>
  pif (decide (v3<(a1n:Int))) (
   ixA a1 a1n v3 1 fun p8=>
   ldI .i64 w1 p8 fun x9=>
   cl Tryz.prog 71 [.slice a0 a0n a0c,.int .i64 x9] w1 fun e11 w2=>∃x10:Bool,e11=Ending.returned (.bool x10)∧
   pif x10 (
    R (.bool true) w2) (
    k4 ((IntKind.wrap .i64 (v3+1)),()) w2)) (
   R (.bool false) w1)) (0,()) w
def An20:An:=.seq (.leaf) (.seq (.seq (.leaf) (.blk (.loop [(5,.one (.int .i64))] (.seq (.seq (.leaf) (.cond (.leaf) (.leaf))) (.seq (.blk (.seq (.leaf) (.cond (.seq (.leaf) (.leaf)) (.leaf)))) (.leaf)))))) (.seq (.leaf) (.leaf)))
theorem V20_eq (a0:Option Addr) (a0n:Nat) (a0c:Nat) (a1:Option Addr) (a1n:Nat) (a1c:Nat) (w:World) (R:Value→World→Prop):evF Tryz.prog Tryz.f20 An20 [.slice a0 a0n a0c,.slice a1 a1n a1c] w R=V20 a0 a0n a0c a1 a1n a1c w R:=by kernel_rfl
theorem V20_calls (a0:Option Addr) (a0n:Nat) (a0c:Nat) (a1:Option Addr) (a1n:Nat) (a1c:Nat) (w:World) (R:Value→World→Prop) (h:V20 a0 a0n a0c a1 a1n a1c w R):Calls Tryz.prog 20 #[.slice a0 a0n a0c,.slice a1 a1n a1c] w fun e w'=>∃v,e=.returned v∧R v w':=
 calls_of_ev (args:=[.slice a0 a0n a0c,.slice a1 a1n a1c]) Tryz.func20 (Nat.le_of_ble_eq_true (by kernel_rfl)) (by rw [V20_eq]; exact h)
theorem ok20:fnOk Tryz.prog 20=true:=by kernel_rfl
def V16 (a0:Option Addr) (a1:Int) (a2_0:Int) (a2_1:Int) (a2_2:Int) (a2_3:Bool) (w:World) (R:Value→World→Prop):Prop:=
 alc w [.int .i64 a2_0,.int .i64 a2_1,.int .i64 a2_2,.bool a2_3] 36 fun b2 w1=>
 ldI .i64 w1 ((⟨b2,0,none⟩:Addr).add 0) fun x4=>
 pif (x4==1) (
  cl Tryz.prog 26 [.pointer a0] w1 fun e8 w2=>∃x7:Bool,e8=Ending.returned (.bool x7)∧
  R (.tuple #[]) w2) (
  pif (x4==2) (
   ldI .i64 w1 ((⟨b2,0,none⟩:Addr).add 2) fun x11=>
   cl Tryz.prog 61 [.pointer a0,.int .i64 x11] w1 fun e13 w3=>∃x12:Int,e13=Ending.returned (.int .i64 x12)∧
   R (.tuple #[]) w3) (
   pif (x4==3) (
    ldI .i64 w1 ((⟨b2,0,none⟩:Addr).add 2) fun x16=>
    cl Tryz.prog 62 [.pointer a0,.int .i64 a1,.int .i64 x16] w1 fun e18 w4=>∃x17:Bool,e18=Ending.returned (.bool x17)∧
    R (.tuple #[]) w4) (
    pif (x4==4) (
     cl Tryz.prog 13 [.pointer a0] w1 fun e24 w5=>∃(x21:Option Addr) (x21n x21c:Nat),∃x22:Int,∃x23:Int,e24=Ending.returned (.tuple #[.slice x21 x21n x21c,.int .i64 x22,.int .i64 x23])∧
     R (.tuple #[]) w5) (
     pif (x4==5) (
      cl Tryz.prog 32 [.pointer a0] w1 fun e28 w6=>∃x27:Int,e28=Ending.returned (.int .i64 x27)∧
      R (.tuple #[]) w6) (
      pif (x4==6) (
       ldI .i64 w1 ((⟨b2,0,none⟩:Addr).add 2) fun x31=>
       cl Tryz.prog 63 [.pointer a0,.int .i64 x31] w1 fun e33 w7=>∃x32:Int,e33=Ending.returned (.int .i64 x32)∧
       R (.tuple #[]) w7) (
       R (.tuple #[]) w1))))))
def An16:An:=.seq (.leaf) (.seq (.leaf) (.blk (.seq (.leaf) (.cond (.leaf) (.seq (.leaf) (.cond (.leaf) (.seq (.leaf) (.cond (.leaf) (.seq (.leaf) (.cond (.leaf) (.seq (.leaf) (.cond (.leaf) (.seq (.leaf) (.cond (.leaf) (.leaf)))))))))))))))
theorem V16_eq (a0:Option Addr) (a1:Int) (a2_0:Int) (a2_1:Int) (a2_2:Int) (a2_3:Bool) (w:World) (R:Value→World→Prop):evF Tryz.prog Tryz.f16 An16 [.pointer a0,.int .i64 a1,.agg #[.int .i64 a2_0,.int .i64 a2_1,.int .i64 a2_2,.bool a2_3]] w R=V16 a0 a1 a2_0 a2_1 a2_2 a2_3 w R:=by kernel_rfl
theorem V16_calls (a0:Option Addr) (a1:Int) (a2_0:Int) (a2_1:Int) (a2_2:Int) (a2_3:Bool) (w:World) (R:Value→World→Prop) (h:V16 a0 a1 a2_0 a2_1 a2_2 a2_3 w R):Calls Tryz.prog 16 #[.pointer a0,.int .i64 a1,.agg #[.int .i64 a2_0,.int .i64 a2_1,.int .i64 a2_2,.bool a2_3]] w fun e w'=>∃v,e=.returned v∧R v w':=
 calls_of_ev (args:=[.pointer a0,.int .i64 a1,.agg #[.int .i64 a2_0,.int .i64 a2_1,.int .i64 a2_2,.bool a2_3]]) Tryz.func16 (Nat.le_of_ble_eq_true (by kernel_rfl)) (by rw [V16_eq]; exact h)
theorem ok16:fnOk Tryz.prog 16=true:=by kernel_rfl
def V62 (a0:Option Addr) (a1:Int) (a2:Int) (w:World) (R:Value→World→Prop):Prop:=
 lp (σ:=Int×Unit) (fun s5 w1 k4=>match s5 with
  | (v3,_)=>
  pif (decide (v3<a1)) (
   a1≠0∧
   a1≠0∧
   jn (σ:=Int×Unit) (fun k9=>
    pif (decide (a2>0)) (
     k9 ((IntKind.wrap .i64 (0 - (IntKind.wrap .i64 ((Int.tmod (IntKind.wrap .i64 ((IntKind.wrap .i64 ((Int.tmod a2 a1)+a1))+v3)) a1)+1)))),()) w1) (
     k9 ((IntKind.wrap .i64 ((Int.tmod (IntKind.wrap .i64 ((IntKind.wrap .i64 ((Int.tmod a2 a1)+a1))+v3)) a1)+1)),()) w1)) fun s10 w2=>match s10 with
   | (v8,_)=>
   cl Tryz.prog 61 [.pointer a0,.int .i64 v8] w2 fun e15 w3=>∃x14:Int,e15=Ending.returned (.int .i64 x14)∧
   pif (x14==0) (
    R (.bool true) w3) (
    k4 ((IntKind.wrap .i64 (v3+1)),()) w3)) (
   R (.bool false) w1)) (0,()) w
def An62:An:=.seq (.leaf) (.seq (.seq (.leaf) (.blk (.loop [(7,.one (.int .i64))] (.seq (.seq (.leaf) (.cond (.leaf) (.leaf))) (.seq (.blk (.seq (.leaf) (.seq (.join [(8,.one (.int .i64))] (.seq (.leaf) (.cond (.leaf) (.leaf)))) (.seq (.leaf) (.cond (.seq (.leaf) (.leaf)) (.leaf)))))) (.leaf)))))) (.seq (.leaf) (.leaf)))
theorem V62_eq (a0:Option Addr) (a1:Int) (a2:Int) (w:World) (R:Value→World→Prop):evF Tryz.prog Tryz.f62 An62 [.pointer a0,.int .i64 a1,.int .i64 a2] w R=V62 a0 a1 a2 w R:=by kernel_rfl
theorem V62_calls (a0:Option Addr) (a1:Int) (a2:Int) (w:World) (R:Value→World→Prop) (h:V62 a0 a1 a2 w R):Calls Tryz.prog 62 #[.pointer a0,.int .i64 a1,.int .i64 a2] w fun e w'=>∃v,e=.returned v∧R v w':=
 calls_of_ev (args:=[.pointer a0,.int .i64 a1,.int .i64 a2]) Tryz.func62 (Nat.le_of_ble_eq_true (by kernel_rfl)) (by rw [V62_eq]; exact h)
theorem ok62:fnOk Tryz.prog 62=true:=by kernel_rfl
end Go.Proofs.YtmhjehodfggleaaGreat.T

/- Statements on an Engine: truths, steps of a script. -/

set_option linter.unusedVariables false
set_option linter.unusedSimpArgs false
set_option linter.unusedSectionVars false
set_option maxRecDepth 100000
namespace Go.Proofs.YtmhjehodfggleaaGreat.Eng
open Go Go.Proofs.YtmhjehodfggleaaGreat.Vc Go.Proofs.YtmhjehodfggleaaGreat.T
open Go.Proofs.YtmhjehodfggleaaGreat.Apart (RdL own_rdl wrap_nat getE own_len take_snoc Sl sv New LL)
open Go.Proofs.YtmhjehodfggleaaGreat.Lits (Ans ans_of)
def tru (m:List Bool) (l:Int):Bool:=
 if l<0 then (if l < -(m.length:Int) then true else !(m[(-l - 1).toNat]?.getD false))
 else (if 0<l∧l≤(m.length:Int) then m[(l - 1).toNat]?.getD false else false)
theorem tru_not (m:List Bool) (x:Int) (h:tru m x=true):¬tru m (-x)=true:=by
 unfold tru at *
 by_cases h1:x<0
 ·rw [if_pos h1] at h
  rw [if_neg (by omega)]
  by_cases h2:x < -(m.length:Int)
  ·rw [if_neg (by omega)]; decide
  ·rw [if_neg h2] at h
   rw [if_pos (by omega)]
   intro h3
   rw [h3] at h; cases h
 ·rw [if_neg h1] at h
  by_cases h2:0<x∧x≤(m.length:Int)
  ·rw [if_pos h2] at h
   rw [if_pos (by omega),if_neg (by omega),Int.neg_neg,h]; decide
  ·rw [if_neg h2] at h; cases h
theorem truthE {w:World} {p:Option Addr} {n c:Nat} {m:List Bool} (hm:RdB w p n m) (hn:n≤140737488351232) {l:Int} (hl:i64 l) :
  Calls Tryz.prog 71 #[.slice p n c,I l] w fun e w'=>e=.returned (.bool (tru m l))∧Keep None w w':=by
 refine ans_of (V71_calls p n c l w (Ans w _) ?_)
 unfold V71
 obtain ⟨ha,hb⟩:=hl
 have hlen:=hm.len
 have e1:IntKind.wrap .i64 (0 - (n:Int))=-(n:Int):=by rw [IntKind.wrap_i64]; omega
 rw [e1]
 unfold tru
 rw [hlen]
 refine pif_of (fun hq=>?_) fun hq=>?_
 ·have hq:l<0:=by simpa using hq
  rw [if_pos hq]
  by_cases h2:l < -(n:Int)
  ·have hd:decide (l < -(n:Int))=true:=decide_eq_true h2
   rw [hd,if_pos h2]
   refine gd_f rfl (gd_f rfl ⟨rfl,Keep.refl _ _⟩)
  ·have hd:decide (l < -(n:Int))=false:=decide_eq_false h2
   rw [hd,if_neg h2]
   have e2:IntKind.wrap .i64 (IntKind.wrap .i64 (0 - l) - 1)=(((-l - 1).toNat:Nat):Int):=by rw [IntKind.wrap_i64,IntKind.wrap_i64]; omega
   rw [e2]
   refine gd_t rfl (hm.ix (by omega) fun a x hx hc=>gd_t rfl (ldB_of hc ⟨?_,Keep.refl _ _⟩))
   rw [hx]; rfl
 ·have hq:¬l<0:=by simpa using hq
  rw [if_neg hq]
  by_cases h2:0<l∧l≤(n:Int)
  ·have hd1:decide (l>0)=true:=decide_eq_true h2.1
   have hd2:decide (l≤(n:Int))=true:=decide_eq_true h2.2
   rw [hd1,hd2,if_pos h2]
   have e2:IntKind.wrap .i64 (l - 1)=(((l - 1).toNat:Nat):Int):=by rw [IntKind.wrap_i64]; omega
   rw [e2]
   refine gd_t rfl (hm.ix (by omega) fun a x hx hc=>gd_t rfl (ldB_of hc ⟨?_,Keep.refl _ _⟩))
   rw [hx]; rfl
  ·have hd:(cond (decide (l>0)) (decide (l≤(n:Int))) false)=false:=by
    by_cases h3:0<l
    ·have:¬l≤(n:Int):=fun h=>h2 ⟨h3,h⟩
     simp [this]
    ·have:decide (l>0)=false:=decide_eq_false h3
     rw [this]; rfl
   rw [hd,if_neg h2]
   exact gd_f rfl (gd_f rfl ⟨rfl,Keep.refl _ _⟩)
theorem holdsE {w:World} {p:Option Addr} {n c:Nat} {m:List Bool} (hm:RdB w p n m) (hn:n≤140737488351232) {q:Option Addr} {k d:Nat} {cs:List Int} (hR:RdL w q k cs) (hk:k≤17592186044416) (hc:∀x∈cs,i64 x) :
  Calls Tryz.prog 20 #[.slice p n c,.slice q k d] w fun e w'=>∃r:Bool,e=.returned (.bool r)∧(r=true↔∃x∈cs,tru m x=true)∧Keep None w w':=by
 refine (V20_calls p n c q k d w (fun v w'=>∃r:Bool,v=.bool r∧(r=true↔∃x∈cs,tru m x=true)∧Keep None w w') ?_).mono fun e w' ⟨v,he,r,hv,hk⟩=>⟨r,by rw [he,hv],hk⟩
 unfold V20
 have hll:=hR.len
 refine lp_of (fun s W=>∃i:Nat,s.1=i∧i≤k∧Keep None w W∧∀x∈cs.take i,¬tru m x=true) (fun s _=>(k - s.1).toNat) ⟨0,rfl,Nat.zero_le _,Keep.refl _ _,fun x hx=>by simp at hx⟩ ?_
 rintro ⟨i',⟨⟩⟩ W ⟨i,rfl,hi,kW,hv⟩
 simp only []
 refine pif_of (fun hlt=>?_) fun hge=>?_
 ·have hlt:i<k:=by simpa using hlt
  rw [wrap_nat i (by omega)]
  refine (hR.keep0 kW).ix hlt fun a x hx ha=>ldI_of ha ?_
  refine cl_of ok71 (truthE (hm.keep0 kW) hn (hc x (List.mem_of_getElem? hx))) fun e w2 ⟨he,k2⟩=>⟨_,he,?_⟩
  refine pif_of (fun hq=>⟨true,rfl,⟨fun _=>⟨x,List.mem_of_getElem? hx,hq⟩,fun _=>rfl⟩,kW.then0 k2⟩) fun hq=>?_
  refine ⟨⟨i+1,rfl,hlt,kW.then0 k2,fun y hy=>?_⟩,by omega⟩
  rw [take_snoc hx] at hy
  rcases List.mem_append.1 hy with hy | hy
  ·exact hv y hy
  ·rw [List.mem_singleton.1 hy,hq]; decide
 ·have hge:i=k:=by simp at hge; omega
  subst hge
  rw [←hll,List.take_length] at hv
  exact ⟨false,rfl,⟨fun h=>(by cases h),fun ⟨x,hx,h⟩=>absurd h (hv x hx)⟩,kW⟩
theorem tru_tot (m:List Bool) (x:Int) (h0:x≠0):tru m x=true∨tru m (-x)=true:=by
 unfold tru
 by_cases h1:x<0
 ·rw [if_pos h1,if_neg (show ¬-x<0 by omega)]
  by_cases h2:x < -(m.length:Int)
  ·rw [if_pos h2]; exact Or.inl rfl
  ·rw [if_neg h2,if_pos (by omega)]
   cases m[(-x - 1).toNat]?.getD false<;>simp
 ·rw [if_neg h1,if_pos (show -x<0 by omega)]
  by_cases h2:0<x∧x≤(m.length:Int)
  ·rw [if_pos h2,if_neg (by omega),Int.neg_neg]
   cases m[(x - 1).toNat]?.getD false<;>simp
  ·rw [if_neg h2,if_pos (by omega)]; exact Or.inr rfl
theorem tmod_b {a v:Int} (hv:0<v) : -v<Int.tmod a v∧Int.tmod a v<v:=⟨Int.lt_tmod_of_pos a hv,Int.tmod_lt_of_pos a hv⟩
def tryL (n vars:Int) (k:Nat):Int:=if n>0 then -((Int.tmod n vars+vars+k)%vars+1) else (Int.tmod n vars+vars+k)%vars+1
theorem tryL_wi {n:Int} {vars:Nat} (h:0<vars) (k:Nat):Wi vars (tryL n vars k):=by
 have h0:(0:Int)<vars:=by omega
 have h1:=Int.emod_nonneg (Int.tmod n vars+vars+k) (show (vars:Int)≠0 by omega)
 have h2:=Int.emod_lt_of_pos (Int.tmod n vars+vars+k) h0
 unfold tryL Wi
 split<;>omega
theorem tryL_all {n:Int} {vars:Nat} {v:Nat} (h1:1≤v) (h2:v≤vars):∃k,k<vars∧(tryL n vars k).natAbs=v:=by
 have h0:(0:Int)<vars:=by omega
 have hne:(vars:Int)≠0:=by omega
 have g1:=Int.emod_nonneg ((v:Int) - 1 - (Int.tmod n vars+vars)) hne
 have g2:=Int.emod_lt_of_pos ((v:Int) - 1 - (Int.tmod n vars+vars)) h0
 refine ⟨(((v:Int) - 1 - (Int.tmod n vars+vars))%vars).toNat,by omega,?_⟩
 have e:(Int.tmod n vars+vars+((((v:Int) - 1 - (Int.tmod n vars+vars))%vars).toNat:Int))%vars=v - 1:=by
  rw [Int.toNat_of_nonneg g1,Int.emod_def ((v:Int) - 1 - (Int.tmod n vars+vars)) vars]
  have e1:Int.tmod n vars+vars+((v:Int) - 1 - (Int.tmod n vars+vars) - (vars:Int)*(((v:Int) - 1 - (Int.tmod n vars+vars)) / vars))=((v:Int) - 1)+(vars:Int)*(-(((v:Int) - 1 - (Int.tmod n vars+vars)) / vars)):=by
   rw [Int.mul_neg]; omega
  rw [e1,Int.add_mul_emod_self_left]
  exact Int.emod_eq_of_lt (by omega) (by omega)
 unfold tryL
 rw [e]
 split<;>omega
section
variable {M M':Nat→Prop} {w w':World} {b:Nat} {css:List (List Int)} {A B A' B':Nat} {S S':ES}
theorem decS_no {l:Int} (h:decA S l≠0):decS S l=S:=by unfold decS; rw [if_neg h]
def Dcd (S:ES) (vars:Nat) (r:Bool) (S':ES):Prop:=
 (r=true∧∃l,Wi vars l∧decA S l=0∧S'=decS S l)∨(r=false∧S'=S∧∀v:Nat,1≤v→v≤vars→∃l:Int,l.natAbs=v∧decA S l≠0)
theorem decidedE {vars:Nat} (hv:vars≤1048576) {n:Int} (hn:i64 n) (h:Ge M w b css A B S) :
  Calls Tryz.prog 62 #[Pt b,I vars,I n] w fun e w'=>∃(r:Bool) (M':Nat→Prop) (S':ES),e=.returned (.bool r)∧Af M w b css A B S' M' w'∧Dcd S vars r S':=by
 refine (V62_calls (some ⟨b,0,none⟩) vars n w (fun v w'=>∃(r:Bool) (M':Nat→Prop) (S':ES),v=.bool r∧Af M w b css A B S' M' w'∧Dcd S vars r S') ?_).mono fun e w' ⟨v,he,r,M',S',hv,hk⟩=>⟨r,M',S',by rw [he,hv],hk⟩
 unfold V62
 refine lp_of (fun s W=>∃(i:Nat) (M1:Nat→Prop),s.1=i∧i≤vars∧Af M w b css A B S M1 W∧∀k,k<i→decA S (tryL n vars k)≠0) (fun s _=>(vars - s.1).toNat) ⟨0,M,rfl,Nat.zero_le _,Af.same h (Keep.refl _ _),fun k hk=>by omega⟩ ?_
 rintro ⟨i',⟨⟩⟩ W ⟨i,M1,rfl,hi,hA,hno⟩
 dsimp only
 refine pif_of (fun hlt=>?_) fun hge=>?_
 ·have hlt:i<vars:=by simpa using hlt
  obtain ⟨t1,t2⟩:=tmod_b (a:=n) (v:=vars) (by omega)
  have e1:IntKind.wrap .i64 (Int.tmod n vars+vars)=Int.tmod n vars+vars:=by rw [IntKind.wrap_i64]; omega
  have e2:IntKind.wrap .i64 (Int.tmod n vars+vars+(i:Int))=Int.tmod n vars+vars+(i:Int):=by rw [IntKind.wrap_i64]; omega
  have e3:Int.tmod (Int.tmod n vars+vars+(i:Int)) vars=(Int.tmod n vars+vars+(i:Int))%vars:=Int.tmod_eq_emod_of_nonneg (by omega)
  have g1:=Int.emod_nonneg (Int.tmod n vars+vars+(i:Int)) (show (vars:Int)≠0 by omega)
  have g2:=Int.emod_lt_of_pos (Int.tmod n vars+vars+(i:Int)) (show (0:Int)<vars by omega)
  have e4:IntKind.wrap .i64 ((Int.tmod n vars+vars+(i:Int))%vars+1)=(Int.tmod n vars+vars+(i:Int))%vars+1:=by rw [IntKind.wrap_i64]; omega
  have e5:IntKind.wrap .i64 (0 - ((Int.tmod n vars+vars+(i:Int))%vars+1))=-((Int.tmod n vars+vars+(i:Int))%vars+1):=by rw [IntKind.wrap_i64]; omega
  rw [wrap_nat i (by omega),e1,e2,e3,e4,e5]
  have hW:=tryL_wi (n:=n) (show 0<vars by omega) i
  have key:∀(w2:World) (R:Ending→World→Prop),w2=W→(∀M' w3,Af M w b css A B (decS S (tryL n vars i)) M' w3→R (.returned (I (decA S (tryL n vars i)))) w3)→cl Tryz.prog 61 [Pt b,I (tryL n vars i)] w2 R:=fun w2 R hw hR=>by
   subst hw
   exact cl_of ok61 (ge_decide hA.ge _ (by have:=hW.2.1; omega)) fun e w3 ⟨he,M',hA'⟩=>by rw [he]; exact hR M' w3 (hA.trans hA')
  refine ⟨by omega,by omega,jn_of ?_⟩
  have fin:cl Tryz.prog 61 [Pt b,I (tryL n vars i)] W fun e15 w3=>∃x14:Int,e15=Ending.returned (.int .i64 x14)∧pif (x14==0) (∃(r:Bool) (M':Nat→Prop) (S':ES),Value.bool true=.bool r∧Af M w b css A B S' M' w3∧Dcd S vars r S') ((∃(i_1:Nat) (M1:Nat→Prop),((i:Int)+1)=i_1∧i_1≤vars∧Af M w b css A B S M1 w3∧∀k,k<i_1→decA S (tryL n vars k)≠0)∧((vars:Int) - ((i:Int)+1)).toNat<((vars:Int) - (i:Int)).toNat):=by
   refine key W _ rfl fun M' w3 hA'=>⟨_,rfl,pif_of (fun hq=>?_) fun hq=>⟨⟨i+1,M',rfl,hlt,?_,fun k hk=>?_⟩,by omega⟩⟩
   ·have hq:decA S (tryL n vars i)=0:=by simpa using hq
    exact ⟨true,M',_,rfl,hA',Or.inl ⟨rfl,_,hW,hq,rfl⟩⟩
   ·have hq:decA S (tryL n vars i)≠0:=by simpa using hq
    rw [decS_no hq] at hA'; exact hA'
   ·have hq:decA S (tryL n vars i)≠0:=by simpa using hq
    by_cases hki:k=i
    ·rw [hki]; exact hq
    ·exact hno k (by omega)
  refine pif_of (fun hq=>?_) fun hq=>?_
  ·have hq:n>0:=by simpa using hq
   have et:tryL n vars i=-((Int.tmod n vars+vars+(i:Int))%vars+1):=by unfold tryL; rw [if_pos hq]
   rw [et] at fin
   exact fin
  ·have hq:¬n>0:=by simpa using hq
   have et:tryL n vars i=(Int.tmod n vars+vars+(i:Int))%vars+1:=by unfold tryL; rw [if_neg hq]
   rw [et] at fin
   exact fin
 ·have hge:i=vars:=by simp at hge; omega
  subst hge
  exact ⟨false,M1,S,rfl,hA,Or.inr ⟨rfl,rfl,fun v h1 h2=>by
   obtain ⟨k,hk,e⟩:=tryL_all (n:=n) h1 h2
   exact ⟨_,e,hno k hk⟩⟩⟩
inductive Stp (S:ES):ES→Prop
 | same:Stp S S
 | spread:Stp S (spread S).1
 | dec (l:Int):Stp S (decS S l)
 | learn:Stp S (learnS S)
 | restart:Stp S (restart S).2
 | forget (i:Int):Stp S (forget S i).2
theorem takenE {vars:Nat} (hv:vars≤1048576) {kd wh nn:Int} {ask:Bool} (hn:i64 nn) (h:Ge M w b css A B S) (hA:A≤cap) (hB:B≤8796093022208) :
  Calls Tryz.prog 16 #[Pt b,I vars,.agg #[I kd,I wh,I nn,.bool ask]] w fun e w'=>∃(M':Nat→Prop) (S':ES),e=.returned (.tuple #[])∧Af M w b css (A+1) (B+S.nv+1) S' M' w'∧Stp S S':=by
 refine (V16_calls (some ⟨b,0,none⟩) vars kd wh nn ask w (fun v w'=>∃(M':Nat→Prop) (S':ES),v=.tuple #[]∧Af M w b css (A+1) (B+S.nv+1) S' M' w'∧Stp S S') ?_).mono fun e w' ⟨v,he,M',S',hv,hk⟩=>⟨M',S',by rw [he,hv],hk⟩
 unfold V16
 refine alc_at fun b2 w1 hb2 hB2 k1=>?_
 have h1:=h.keep0 k1
 have up:∀{S':ES} {M':Nat→Prop} {w':World},Af M w1 b css A B S' M' w'→Af M w b css (A+1) (B+S.nv+1) S' M' w':=fun ha=>(ha.pre0 k1).mono (by omega) (by omega)
 have hc0:w1.cell? ((⟨b2,0,none⟩:Addr).add 0)=some (I kd):=by rw [add_mk]; exact hB2.cell 0
 have hc2:w1.cell? ((⟨b2,0,none⟩:Addr).add 2)=some (I nn):=by rw [add_mk]; exact hB2.cell 2
 refine ldI_of hc0 (pif_of (fun _=>?_) fun _=>pif_of (fun _=>?_) fun _=>pif_of (fun _=>?_) fun _=>pif_of (fun _=>?_) fun _=>pif_of (fun _=>?_) fun _=>pif_of (fun _=>?_) fun _=>?_)
 ·exact cl_of ok26 (ge_spread h1) fun e w2 ⟨he,M',hA'⟩=>⟨_,he,M',_,rfl,up hA',.spread⟩
 ·exact ldI_of hc2 (cl_of ok61 (ge_decide h1 nn hn.1) fun e w2 ⟨he,M',hA'⟩=>⟨_,he,M',_,rfl,up hA',.dec nn⟩)
 ·refine ldI_of hc2 (cl_of ok62 (decidedE hv hn h1) fun e w2 ⟨r,M',S',he,hA',hD⟩=>⟨r,he,M',S',rfl,up hA',?_⟩)
  rcases hD with ⟨_,l,_,_,rfl⟩ | ⟨_,rfl,_⟩
  ·exact .dec l
  ·exact .same
 ·exact cl_of ok13 (ge_learn h1 hA hB) fun e w2 ⟨p,c,M',he,_,_,hA'⟩=>⟨p,_,c,_,_,he,M',_,rfl,hA'.pre0 k1,.learn⟩
 ·exact cl_of ok32 (ge_restart h1) fun e w2 ⟨he,M',hA'⟩=>⟨_,he,M',_,rfl,up hA',.restart⟩
 ·exact ldI_of hc2 (cl_of ok63 (ge_forget h1 hA hB nn) fun e w2 ⟨he,M',hA'⟩=>⟨_,he,M',_,rfl,up hA',.forget nn⟩)
 ·exact ⟨M,S,rfl,up (Af.same h1 (Keep.refl _ _)),.same⟩
end
end Go.Proofs.YtmhjehodfggleaaGreat.Eng

/- The conditions under which the functions printed here return, as propositions over typed values; each is the machine's own, by the generator's theorem. -/

set_option linter.unusedVariables false
set_option maxRecDepth 100000
namespace Go.Proofs.YtmhjehodfggleaaGreat.T
open Go Go.Proofs.YtmhjehodfggleaaGreat.Vc
def V12 (a0_0:Int) (a0_1:Option Addr) (a0_1n:Nat) (a0_1c:Nat) (w:World) (R:Value→World→Prop):Prop:=
 alc w [.int .i64 a0_0,.slice a0_1 a0_1n a0_1c] 24 fun b2 w1=>
 alc w1 [.int .i64 0,.slice none 0 0] 24 fun b3 w2=>
 ldC w2 ((⟨b2,0,none⟩:Addr).add 1) fun x5 x5n x5c=>
 cl Tryz.prog 51 [.slice x5 x5n x5c] w2 fun e7 w3=>∃(x6:Option Addr) (x6n x6c:Nat),e7=Ending.returned (.slice x6 x6n x6c)∧
 ldI .i64 w3 ((⟨b2,0,none⟩:Addr).add 0) fun x9=>
 st w3 ((⟨b3,0,none⟩:Addr).add 0) (.int .i64 x9) fun w4=>
 st w4 ((⟨b3,0,none⟩:Addr).add 1) (.slice x6 x6n x6c) fun w5=>
 ldI .i64 w5 ((⟨b3,0,none⟩:Addr).add 0) fun x10=>
 ldC w5 ((⟨b3,0,none⟩:Addr).add 1) fun x11 x11n x11c=>
 R (.agg #[.int .i64 x10,.slice x11 x11n x11c]) w5
def An12:An:=.seq (.leaf) (.seq (.leaf) (.seq (.leaf) (.leaf)))
theorem V12_eq (a0_0:Int) (a0_1:Option Addr) (a0_1n:Nat) (a0_1c:Nat) (w:World) (R:Value→World→Prop):evF Tryz.prog Tryz.f12 An12 [.agg #[.int .i64 a0_0,.slice a0_1 a0_1n a0_1c]] w R=V12 a0_0 a0_1 a0_1n a0_1c w R:=by kernel_rfl
theorem V12_calls (a0_0:Int) (a0_1:Option Addr) (a0_1n:Nat) (a0_1c:Nat) (w:World) (R:Value→World→Prop) (h:V12 a0_0 a0_1 a0_1n a0_1c w R):Calls Tryz.prog 12 #[.agg #[.int .i64 a0_0,.slice a0_1 a0_1n a0_1c]] w fun e w'=>∃v,e=.returned v∧R v w':=
 calls_of_ev (args:=[.agg #[.int .i64 a0_0,.slice a0_1 a0_1n a0_1c]]) Tryz.func12 (Nat.le_of_ble_eq_true (by kernel_rfl)) (by rw [V12_eq]; exact h)
theorem ok12:fnOk Tryz.prog 12=true:=by kernel_rfl
def V51 (a0:Option Addr) (a0n:Nat) (a0c:Nat) (w:World) (R:Value→World→Prop):Prop:=
 lp (σ:=(Option Addr×Nat×Nat)×Int×Unit) (fun s7 w1 k6=>match s7 with
  | ((v4,v4n,v4c),v5,_)=>
  pif (decide (v5<(a0n:Int))) (
   ixA a0 a0n v5 1 fun p10=>
   ldC w1 p10 fun x11 x11n x11c=>
   cl Tryz.prog 21 [.slice x11 x11n x11c] w1 fun e13 w2=>∃(x12:Option Addr) (x12n x12c:Nat),e13=Ending.returned (.slice x12 x12n x12c)∧
   alc w2 [.slice x12 x12n x12c] 49 fun b15 w3=>
   ∃(x16:Option Addr) (x16n x16c:Nat),∃w4:World,(Builtin.append_ #[22,22] 22 #[.slice v4 v4n v4c,.slice (some (⟨b15,0,none⟩:Addr)) 1 1]).run Tryz.prog w3=.ok (.slice x16 x16n x16c) w4∧
   k6 ((x16,x16n,x16c),(IntKind.wrap .i64 (v5+1)),()) w4) (
   R (.slice v4 v4n v4c) w1)) ((none,0,0),0,()) w
def An51:An:=.seq (.leaf) (.seq (.leaf) (.seq (.seq (.leaf) (.blk (.loop [(3,.one (.slc)),(4,.one (.int .i64))] (.seq (.seq (.leaf) (.cond (.leaf) (.leaf))) (.seq (.blk (.seq (.leaf) (.leaf))) (.leaf)))))) (.seq (.leaf) (.leaf))))
theorem V51_eq (a0:Option Addr) (a0n:Nat) (a0c:Nat) (w:World) (R:Value→World→Prop):evF Tryz.prog Tryz.f51 An51 [.slice a0 a0n a0c] w R=V51 a0 a0n a0c w R:=by kernel_rfl
theorem V51_calls (a0:Option Addr) (a0n:Nat) (a0c:Nat) (w:World) (R:Value→World→Prop) (h:V51 a0 a0n a0c w R):Calls Tryz.prog 51 #[.slice a0 a0n a0c] w fun e w'=>∃v,e=.returned v∧R v w':=
 calls_of_ev (args:=[.slice a0 a0n a0c]) Tryz.func51 (Nat.le_of_ble_eq_true (by kernel_rfl)) (by rw [V51_eq]; exact h)
theorem ok51:fnOk Tryz.prog 51=true:=by kernel_rfl
end Go.Proofs.YtmhjehodfggleaaGreat.T

/- Formulas copied. -/

set_option linter.unusedVariables false
set_option linter.unusedSimpArgs false
set_option linter.unusedSectionVars false
set_option maxRecDepth 100000
namespace Go.Proofs.YtmhjehodfggleaaGreat.Eng
open Go Go.Proofs.YtmhjehodfggleaaGreat.Vc Go.Proofs.YtmhjehodfggleaaGreat.T
open Go.Proofs.YtmhjehodfggleaaGreat.Apart (RdL own_rdl wrap_nat getE own_len copy same take_snoc Sl sv New LL)
theorem LLrdc {M:Nat→Prop} {w:World} {p:Option Addr} {n c:Nat} {hs:List Sl} {css:List (List Int)} (h:LL M w p n c hs css):RdC M w p n css:=by
 refine ⟨h.len,fun i es hi=>?_⟩
 have hl:=h.hl
 have hc:=h.len
 have hlt:=(List.getElem?_eq_some_iff.1 hi).1
 obtain ⟨x,hx⟩:=getE (show i<hs.length by omega)
 obtain ⟨h3,h4⟩:=h.inn i x es hx hi
 have hO:=h.own
 rcases hO with ⟨rfl,rfl,_,_⟩ | ⟨b,cs,rfl,hB,_⟩
 ·omega
 ·refine ⟨⟨b,0,none⟩,x.1,x.2.1,x.2.2,rfl,?_,own_rdl h3,h.out b ⟨_,rfl,rfl⟩,fun j hj _=>(h4 j hj).1,fun e=>?_⟩
  ·rw [add_mk,Nat.zero_add,h.own.cell _ (by omega),List.getElem?_map,hx]; rfl
  ·rcases h3 with ⟨_,_,hc,_⟩ | ⟨b,cs,h3,_⟩
   ·exact hc
   ·rw [e] at h3; cases h3
abbrev Fresh (w:World):Nat→Prop:=fun i=>w.heap.size≤i
theorem copies31 {B:Nat→Prop} {w:World} {p:Option Addr} {n c:Nat} {css:List (List Int)} (hC:RdC B w p n css) (hn:n≤8796093022208) (hl:∀es∈css,es.length≤17592186044416) :
  Calls Tryz.prog 51 #[.slice p n c] w fun e w'=>∃p' c' hs,e=.returned (.slice p' n c')∧LL (Fresh w) w' p' n c' hs css∧Keep None w w':=by
 refine (V51_calls p n c w (fun v w'=>∃p' c' hs,v=.slice p' n c'∧LL (Fresh w) w' p' n c' hs css∧Keep None w w') ?_).mono fun e w' ⟨v,he,p',c',hs,hv,hk⟩=>⟨p',c',hs,by rw [he,hv],hk⟩
 unfold V51
 have hll:=hC.len
 refine lp_of (fun s W=>∃(i:Nat) (hs:List Sl),s.2.1=i∧i≤n∧s.1.2.1=i∧LL (Fresh w) W s.1.1 s.1.2.1 s.1.2.2 hs (css.take i)∧Keep None w W) (fun s _=>(n - s.2.1).toNat) ⟨0,[],rfl,Nat.zero_le _,rfl,LL.nil _ _,Keep.refl _ _⟩ ?_
 rintro ⟨⟨q,m,d⟩,i',⟨⟩⟩ w1 ⟨i,hs,rfl,hi,hm,hL,k1⟩
 simp only [] at hm hL ⊢
 subst hm
 refine pif_of (fun hlt=>?_) fun hge=>?_
 ·have hlt:m<n:=by simpa using hlt
  obtain ⟨es,hes⟩:=getE (show m<css.length by omega)
  rw [wrap_nat m (by omega)]
  refine (hC.keep0 k1).ix hes fun a q2 mm c2 ha hRd _ _=>ldC_of ha ?_
  refine cl_of ok21 (copy hRd (by rw [←hRd.len]; exact hl es (List.mem_of_getElem? hes))) fun e w2 ⟨v2,he,p2,c2',hv,hO2,hf2,k2⟩=>⟨p2,es.length,c2',by rw [he,hv],?_⟩
  refine alc_at fun b w3 hb hB k3=>?_
  have hL3:LL (fun i=>w.heap.size≤i∧i<w1.heap.size) w3 q m d hs (css.take m):=((hL.mono (M':=fun i=>w.heap.size≤i∧i<w1.heap.size) fun i h1 h2=>⟨h2,h1⟩).keep0 k2).keep0 k3
  refine hL3.app (x:=(p2,es.length,c2')) (M':=fun i=>w.heap.size≤i) (hO2.keep0 k3) (fun j hj=>⟨by have:=hf2 j hj; have:=k1.size; show w.heap.size≤j; omega,fun h=>by have:=hf2 j hj; omega⟩) (fun i h=>h.1) (by omega) hB fun p' c' w' hL' k'=>?_
  refine ⟨⟨m+1,hs++[(p2,es.length,c2')],rfl,hlt,rfl,?_,?_⟩,by omega⟩
  ·rw [List.take_add_one,hes]
   refine hL'.mono fun i _ h=>?_
   rcases h.2 with h | h
   ·exact h
   ·have:=k1.size; have:=k2.size; have:=k3.size; show w.heap.size≤i; omega
  ·exact (((k1.trans k2 fun _ _ h=>h).trans k3 fun _ _ h=>h).trans k' fun i hi h=>by have:=h.1; omega)
 ·have hge:m=n:=by simp at hge; omega
  subst hge
  rw [←hll,List.take_length] at hL
  rw [hll] at hL
  exact ⟨q,d,hs,rfl,hL,k1⟩
theorem copyF11 {B:Nat→Prop} {w:World} {nv:Int} {p:Option Addr} {n c:Nat} {css:List (List Int)} (hC:RdC B w p n css) (hn:n≤8796093022208) (hl:∀es∈css,es.length≤17592186044416) :
  Calls Tryz.prog 12 #[.agg #[I nv,.slice p n c]] w fun e w'=>∃p' c' hs,e=.returned (.agg #[I nv,.slice p' n c'])∧LL (Fresh w) w' p' n c' hs css∧Keep None w w':=by
 refine (V12_calls nv p n c w (fun v w'=>∃p' c' hs,v=.agg #[I nv,.slice p' n c']∧LL (Fresh w) w' p' n c' hs css∧Keep None w w') ?_).mono fun e w' ⟨v,he,p',c',hs,hv,hk⟩=>⟨p',c',hs,by rw [he,hv],hk⟩
 unfold V12
 refine alc_at fun b2 w1 hb2 hB2 k1=>?_
 refine alc_at fun b3 w2 hb3 hB3 k2=>?_
 have k12:=k1.then0 k2
 refine ldC_of (x:=p) (n:=n) (c:=c) (by rw [add_mk]; exact (hB2.keep0 k2).cell 1) ?_
 refine cl_of ok51 (copies31 (hC.keep0 k12) hn hl) fun e w3 ⟨p',c',hs,he,hL,k3⟩=>⟨p',n,c',he,?_⟩
 have s1:=k1.size; have s2:=k2.size; have s3:=k3.size
 have l2:=hB2.lt; have l3:=hB3.lt
 refine ldI_of (x:=nv) (by rw [add_mk]; exact ((hB2.keep0 k2).keep0 k3).cell 0) ?_
 rw [add_mk,add_mk,Nat.zero_add]
 refine st_of (hB3.keep0 k3) (by simp) rfl fun w4 hB4 k4 _=>?_
 refine st_of hB4 (by simp) rfl fun w5 hB5 k5 _=>?_
 have kk:Keep None w w5:=((k12.trans k3 fun _ _ h=>h).trans k4 fun i hi h=>by have h':i=b3:=h; omega).trans k5 fun i hi h=>by have h':i=b3:=h; omega
 refine ldI_of (x:=nv) (hB5.cell 0) ?_
 refine ldC_of (x:=p') (n:=n) (c:=c') (hB5.cell 1) ?_
 refine ⟨p',c',hs,rfl,?_,kk⟩
 have hL':LL (Fresh w2) w5 p' n c' hs css:=(hL.keep k4 fun i hi h=>by have h':i=b3:=h; have:w2.heap.size≤i:=hi; omega).keep k5 fun i hi h=>by have h':i=b3:=h; have:w2.heap.size≤i:=hi; omega
 exact hL'.mono fun i _ hi=>by have:w2.heap.size≤i:=hi; show w.heap.size≤i; omega
end Go.Proofs.YtmhjehodfggleaaGreat.Eng

/- EngineFollows: the law. -/

set_option linter.unusedVariables false
set_option linter.unusedSimpArgs false
set_option linter.unusedSectionVars false
set_option maxRecDepth 100000
namespace Go.Proofs.YtmhjehodfggleaaGreat.Eng
open Go Go.Proofs.YtmhjehodfggleaaGreat.Vc Go.Proofs.YtmhjehodfggleaaGreat.T Go.ChangeShapes Go.WideShapes Go.ChangeAt Go.RowKit
open Go.Proofs.YtmhjehodfggleaaGreat.Apart (RdL own_rdl wrap_nat getE own_len take_snoc Sl sv New LL copy)
theorem cOp:Tryz.prog.cellsOf 36=4:=by kernel_rfl
structure OpT where
 kd:Int
 wh:Int
 n:Int
 ask:Bool
instance:Inhabited OpT:=⟨⟨0,0,0,false⟩⟩
theorem fitsOp {w:World} {m:Nat} {cs:List Value} (h:Fits Tryz.prog w (m+2) 36 cs):∃x:OpT,cs=[I x.kd,I x.wh,I x.n,.bool x.ask]∧i64 x.wh∧i64 x.n:=by
 unfold Fits at h; rw [Tryz.underlying36] at h
 obtain ⟨hl,h⟩:=h
 rw [cOp] at hl
 match cs,hl with
 | [a0,a1,a2,a3],_=>
  obtain ⟨n0,e0,r0⟩:=fitsInt (m:=m) (cs:=[a0]) (by simpa [cInt,cBool] using h 0 _ rfl)
  obtain ⟨n1,e1,r1⟩:=fitsInt (m:=m) (cs:=[a1]) (by simpa [cInt,cBool] using h 1 _ rfl)
  obtain ⟨n2,e2,r2⟩:=fitsInt (m:=m) (cs:=[a2]) (by simpa [cInt,cBool] using h 2 _ rfl)
  obtain ⟨n3,e3⟩:=fitsBool (m:=m) (cs:=[a3]) (by simpa [cInt,cBool] using h 3 _ rfl)
  simp only [List.cons.injEq,and_true] at e0 e1 e2 e3
  subst e0 e1 e2 e3
  exact ⟨⟨n0,n1,n2,n3⟩,rfl,r1,r2⟩
structure LsO (w:World) (p:Option Addr) (n:Nat) (xs:List OpT):Prop where
 len:xs.length=n
 at_:∀(i:Nat) (x:OpT),xs[i]?=some x→∃a,p=some a∧w.cell? ((a.add (i*4)).add 0)=some (I x.kd)∧w.cell? ((a.add (i*4)).add 1)=some (I x.wh)∧w.cell? ((a.add (i*4)).add 2)=some (I x.n)∧w.cell? ((a.add (i*4)).add 3)=some (.bool x.ask)∧i64 x.wh∧i64 x.n
theorem fitsOps {w:World} {m mb B:Nat} {cs:List Value} (h:Fits Tryz.prog w (m+3) 25 cs) (hb:Bk Tryz.prog w B (mb+1) 25 cs):∃p n c xs,cs=[.slice p n c]∧n≤B∧LsO w p n xs:=by
 obtain ⟨p,n,c,xs,e,hn,hS⟩:=slc_of (P:=fun cs' (x:OpT)=>cs'=[I x.kd,I x.wh,I x.n,.bool x.ask]∧i64 x.wh∧i64 x.n) Tryz.underlying25 cOp (fun cs' hf _=>fitsOp hf) h hb
 refine ⟨p,n,c,xs,e,hn,hS.len,fun i x hx=>?_⟩
 obtain ⟨a,cs',h1,h2,rfl,h3⟩:=hS.at_ i x hx
 obtain ⟨_,_,hc⟩:=World.cells?_some h2
 exact ⟨a,h1,hc 0 (by omega),hc 1 (by omega),hc 2 (by omega),hc 3 (by omega),h3⟩
theorem ops_of {H:Type} {enc:TypeId×Value→H} {W:World} {base:Nat} {v:Value} {d:DataW H} {ps:List MemPlace} (hv:Value.okWide Tryz.prog W .any base 25 v) (h:DataW.Trod enc Tryz.prog W 0 (fun _=>true) true 25 v d ps) (hb:Rows.uptoBulk d≤1048576) :
  ∃p n c xs,v=.slice p n c∧n≤1048576∧LsO W p n xs:=by
 obtain ⟨p,n,c,xs,e,r⟩:=fitsOps (m:=0) (mb:=0) (fits_of h 3) (bk_of h hb 1)
 exact ⟨p,n,c,xs,one_of Tryz.underlying25 hv e,r⟩
theorem LsO.ix {w W:World} {p:Option Addr} {n:Nat} {xs:List OpT} (h:LsO w p n xs) (hk:Keep None w W) {i:Nat} (hi:i<n) {K:Addr→Prop}
  (hK:∀a x,xs[i]?=some x→W.cell? (a.add 0)=some (I x.kd)→W.cell? (a.add 1)=some (I x.wh)→W.cell? (a.add 2)=some (I x.n)→W.cell? (a.add 3)=some (.bool x.ask)→i64 x.wh→i64 x.n→K a):ixA p n (i:Int) 4 K:=by
 obtain ⟨x,hx⟩:=getE (show i<xs.length by have:=h.len; omega)
 obtain ⟨a,rfl,h0,h1,h2,h3,h4,h5⟩:=h.at_ i x hx
 have kc:∀{a:Addr} {v:Value},w.cell? a=some v→W.cell? a=some v:=fun h=>hk.cell h fun h=>h
 refine ⟨by omega,by omega,?_⟩
 show K _
 rw [Int.toNat_natCast]
 exact hK _ x hx (kc h0) (kc h1) (kc h2) (kc h3) h4 h5
theorem one_eng:(spread (newE 1 [[1]])).2=true∧modelS (spread (newE 1 [[1]])).1=some [true]:=⟨by kernel_rfl,by kernel_rfl⟩
theorem one_formed:FormedF 1 [[1]]:=⟨by omega,by omega,fun c hc x hx=>by rw [List.mem_singleton.1 hc] at hx; rw [List.mem_singleton.1 hx]; exact ⟨by omega,by decide,by decide⟩⟩
theorem one_rdc {w:World} {b c:Nat} {t t2:TypeId} (hB:Blk w b [I 1] t) (hC:Blk w c [.slice (some ⟨b,0,none⟩) 1 1] t2):RdC (Old w) w (some ⟨c,0,none⟩) 1 [[1]]:=by
 refine ⟨rfl,fun i es hi=>?_⟩
 match i with
 | 0=>
  have:es=[1]:=by simpa using hi.symm
  subst this
  refine ⟨⟨c,0,none⟩,some ⟨b,0,none⟩,1,1,rfl,by rw [add_mk]; exact hC.cell 0,⟨rfl,fun j x hx=>?_⟩,hC.lt,fun j hj _=>?_,fun h=>by cases h⟩
  ·match j with
   | 0=>
    have:x=1:=by simpa using hx.symm
    subst this
    exact ⟨⟨b,0,none⟩,rfl,by rw [add_mk]; exact hB.cell 0⟩
   | j+1=>simp at hx
  ·obtain ⟨a,ha,rfl⟩:=hj
   injection ha with ha; subst ha
   exact hB.lt
 | i+1=>simp at hi
theorem fol_end {w W:World} (kW:Keep None w W) :
  alc W [.int .i64 1] 3 fun b94 w26=>
      alc w26 [.slice (some (⟨b94,0,none⟩:Addr)) 1 1] 49 fun b95 w27=>
      cl Tryz.prog 9 [.agg #[.int .i64 1,.slice (some (⟨b95,0,none⟩:Addr)) 1 1]] w27 fun e98 w28=>∃x96:Option Addr,∃x97:Int,e98=Ending.returned (.tuple #[.pointer x96,.int .i64 x97])∧
      gd (α:=Bool) (!(cond (x97 != 0) true (Option.isNone x96))) (fun k100=>
       cl Tryz.prog 26 [.pointer x96] w28 fun e102 w29=>∃x101:Bool,e102=Ending.returned (.bool x101)∧
       k100 x101 w29) false w28 fun x103 w30=>
      pif (cond (cond (x97 != 0) true (Option.isNone x96)) true (!x103)) (
       (Value.bool false=.bool true∧Keep None w w30)) (
       cl Tryz.prog 24 [.pointer x96] w30 fun e108 w31=>∃(x106:Option Addr) (x106n x106c:Nat),∃x107:Bool,e108=Ending.returned (.tuple #[.slice x106 x106n x106c,.bool x107])∧
       gd (α:=Addr) (cond x107 ((x106n:Int)==1) false) (fun k110=>
        ixA x106 x106n 0 1 fun p111=>
        k110 p111 w31) ⟨0,0,none⟩ w31 fun x112 w32=>
       gd (α:=Bool) (cond x107 ((x106n:Int)==1) false) (fun k113=>
        ldB w32 x112 fun x114=>
        k113 x114 w32) false w32 fun x115 w33=>
       (Value.bool (cond (cond x107 ((x106n:Int)==1) false) x115 false)=.bool true∧Keep None w w33)):=by
 refine alc_at fun b94 w1 hb94 hB94 k1=>?_
 refine alc_at fun b95 w2 hb95 hB95 k2=>?_
 refine cl_of ok9 (ge_new (one_rdc (hB94.keep0 k2) hB95) (fun j hj=>hj) (by omega) (fun es he=>by rw [List.mem_singleton.1 he]; decide)) fun e w3 ⟨q,v,he,hN⟩=>⟨q,v,he,?_⟩
 rcases hN with ⟨_,_,hf,_⟩ | ⟨_,rfl,b,M,rfl,hG,hM,k3⟩
 ·exact absurd one_formed hf
 obtain ⟨o1,o2⟩:=one_eng
 have hG':Ge M w3 b [[1]] 1 1048577 (newE 1 [[1]]):=hG
 refine gd_t rfl (cl_of ok26 (ge_spread hG') fun e w4 ⟨he,M',hA⟩=>⟨_,he,?_⟩)
 rw [o1]
 have kk:Keep None w w4:=(((kW.trans k1 fun _ _ h=>h).trans k2 fun _ _ h=>h).trans k3 fun _ _ h=>h).trans hA.kp fun i hi h=>by
  have:=hM i h; have:=kW.size; have:=k1.size; have:=k2.size; omega
 refine pif_f rfl (cl_of ok24 (ge_model hA.ge) fun e w5 hh=>?_)
 rcases hh with ⟨hm,_⟩ | ⟨m,p,c,hm,hl,he,hO,_,k5⟩
 ·rw [o2] at hm; cases hm
 rw [o2] at hm; injection hm with hm; subst hm
 have hnv:(spread (newE 1 [[1]])).1.nv=1:=by kernel_rfl
 rw [hnv] at he hO
 refine ⟨p,1,c,true,he,gd_t rfl ((own_rdb hO).ix (i:=0) (by omega) fun a x hx ha=>gd_t rfl (ldB_of ha ⟨?_,kk.then0 k5⟩))⟩
 have:x=true:=by simpa using hx.symm
 rw [this]; rfl
structure Fo (w:World) (m:List Bool) (N0 b:Nat) (css:List (List Int)) (A B nv:Nat) (W:World):Prop where
 ge:∃M S,Ge M W b css A B S∧(∀i,M i→N0≤i)∧S.nv=nv∧Mo (fun x=>tru m x=true) S∧S.dead=false
 kp:Keep None w W
theorem stp_mo {css:List (List Int)} {T:Int→Prop} {S S':ES} (h:Iq css S) (hT:Tru T css) (hM:Mo T S) (hd:S.dead=false) (hs:Stp S S'):Mo T S'∧S'.dead=false:=by
 cases hs with
 | same=>exact ⟨hM,hd⟩
 | spread=>exact ⟨by unfold Mo; rw [learnts_spread h.iz]; exact hM,(dead_spread h.iz).trans hd⟩
 | dec l=>exact ⟨by unfold Mo; rw [learnts_dec]; exact hM,(dead_dec l).trans hd⟩
 | learn=>exact learn_mo h hT hM hd
 | restart=>exact ⟨by unfold Mo; rw [learnts_restart]; exact hM,dead_restart.trans hd⟩
 | forget i=>exact ⟨fun c hc=>hM c (learnts_forget_sub i c hc),(dead_forget i).trans hd⟩
theorem stp_nv {css:List (List Int)} {S S':ES} (h:Iq css S) (hs:Stp S S'):S'.nv=S.nv:=by
 cases hs with
 | same=>rfl
 | spread=>exact nv_spread h.iz
 | dec l=>exact nv_dec l
 | learn=>exact nv_learn S
 | restart=>exact nv_restart
 | forget i=>exact nv_forget i
theorem lawFollows {w : World} {nv : Int} {p : Option Addr} {n c : Nat} {css : List (List Int)} (hC : LsC w p n c css) {mp : Option Addr} {mn mc : Nat} {m : List Bool} (hmn : mn ≤ 1048576) (hm : RdB w mp mn m) {sp : Option Addr} {sn sc : Nat} {xs : List OpT} (hsn : sn ≤ 1048576) (hS : LsO w sp sn xs) :
    Calls Tryz.prog 5 #[.agg #[I nv, .slice p n c], .slice mp mn mc, .slice sp sn sc] w fun e w' => e = .returned (.bool true) ∧ RowKit.Below w.heap.size w w' := by
  refine (V5_calls nv p n c mp mn mc sp sn sc w (fun v w' => v = .bool true ∧ Keep None w w') ?_).mono fun e w' ⟨v, he, hv, hk⟩ => ⟨by rw [he, hv], hk.below0⟩
  unfold V5
  have hnc := hC.nc; have hnb := hC.nb
  have hlen := hC.rd.len
  refine alc_at fun b2 w1 hb2 hB2 k1 => ?_
  refine ldI_of (x := nv) (by rw [add_mk]; exact hB2.cell 0) ?_
  refine alc_at fun b5 w2 hb5 hB5 k2 => ?_
  rw [add_mk, add_mk, add_mk, Nat.zero_add, Nat.zero_add]
  refine st_of hB5 (by simp) rfl fun w3 hB5a k3 _ => ?_
  refine st_of hB5a (by simp) rfl fun w4 hB5b k4 z4 => ?_
  have s1 := k1.size; have s2 := k2.size; have s3 := k3.size; have s4 := k4.size
  have l2 := hB2.lt; have l5 := hB5.lt
  have k04 : Keep None w w4 := (((k1.trans k2 fun _ _ h => h).trans k3 fun i hi h => by have h' : i = b5 := h; omega).trans k4 fun i hi h => by have h' : i = b5 := h; omega)
  have hB2w : Blk w4 b2 [I nv, .slice p n c] 24 := ((hB2.keep0 k2).keep1 k3 (by omega)).keep1 k4 (by omega)
  refine lp_of (fun s W => ∃ (i : Nat) (q : Option Addr) (k d : Nat) (hs : List Sl) (ds : List (List Int)), s.1 = i ∧ i ≤ n ∧ k ≤ i ∧ Blk W b2 [I nv, .slice p n c] 24 ∧ Blk W b5 [I nv, .slice q k d] 24 ∧
      LL (fun i => w4.heap.size ≤ i) W q k d hs ds ∧ Keep None w W ∧ w4.heap.size ≤ W.heap.size ∧ (∀ e ∈ ds, e ∈ css ∧ ∃ x ∈ e, tru m x = true)) (fun s _ => (n - s.1).toNat)
    ⟨0, none, 0, 0, [], [], rfl, Nat.zero_le _, Nat.le_refl _, hB2w, hB5b, LL.nil _ _, k04, Nat.le_refl _, fun e he => by cases he⟩ ?_
  rintro ⟨i', ⟨⟩⟩ W ⟨i, q, k, d, hs, ds, rfl, hi, hki, hA, hB, hL, kW, sW, hD⟩
  dsimp only
  refine ldC_of (x := p) (n := n) (c := c) (hA.cell 1) ?_
  refine pif_of (fun hlt => ?_) fun hge => ?_
  · have hlt : i < n := by simpa using hlt
    rw [wrap_nat i (by omega)]
    refine ⟨fun _ W' => ∃ (q : Option Addr) (k d : Nat) (hs : List Sl) (ds : List (List Int)), k ≤ i + 1 ∧ Blk W' b2 [I nv, .slice p n c] 24 ∧ Blk W' b5 [I nv, .slice q k d] 24 ∧
      LL (fun i => w4.heap.size ≤ i) W' q k d hs ds ∧ Keep None w W' ∧ w4.heap.size ≤ W'.heap.size ∧ (∀ e ∈ ds, e ∈ css ∧ ∃ x ∈ e, tru m x = true), ?_, ?_⟩
    rotate_left
    · rintro ⟨⟩ W' ⟨q, k, d, hs, ds, hk', h1, h2, h3, h4, h5, h6⟩
      exact ⟨⟨i + 1, q, k, d, hs, ds, rfl, hlt, hk', h1, h2, h3, h4, h5, h6⟩, by omega⟩
    refine ldC_of (x := p) (n := n) (c := c) (hA.cell 1) ?_
    obtain ⟨es, hes⟩ := getE (show i < css.length by omega)
    have hmm := List.mem_of_getElem? hes
    have hlb := hC.lb es hmm
    have hRC := hC.rd.keep0 kW
    refine hRC.ix hes fun a q2 m2 c2 ha hRd _ _ => ldC_of ha ?_
    refine cl_of ok20 (holdsE (hm.keep0 kW) (by omega) hRd (by rw [← hRd.len]; omega) hlb.2) fun e w5 ⟨r, he, hr, k5⟩ => ⟨r, he, ?_⟩
    have hA5 := hA.keep0 k5; have hB5 := hB.keep0 k5
    refine pif_of (fun hq => ?_) fun hq => ⟨q, k, d, hs, ds, by omega, hA5, hB5, hL.keep0 k5, kW.then0 k5, by have := k5.size; omega, hD⟩
    have htrue := hr.1 hq
    refine ldC_of (x := q) (n := k) (c := d) (hB5.drew.cell 1) ?_
    refine ldC_of (x := p) (n := n) (c := c) (hA5.drew.cell 1) ?_
    refine (hRC.keep0 k5.drew).ix hes fun a' q2 m2 c2 ha hRd _ _ => ldC_of ha ?_
    refine cl_of ok21 (copy hRd (by rw [← hRd.len]; omega)) fun e w6 ⟨v6, he, p6, c6, hv, hO6, hf6, k6⟩ => ⟨p6, es.length, c6, by rw [he, hv], ?_⟩
    have kd : Keep None W w6 := k5.drew.then0 k6
    have hB6 := hB.keep0 kd
    refine ⟨ldC_of (x := q) (n := k) (c := d) (hB6.cell 1) rfl, ?_⟩
    refine alc_at fun b7 w7 hb7 hB7 k7 => ?_
    have hB7' := hB6.keep0 k7
    refine ⟨ldC_of (x := q) (n := k) (c := d) (hB7'.cell 1) rfl, ?_⟩
    have zd := kd.size; have z7 := k7.size
    have hL7 : LL (fun i => w4.heap.size ≤ i ∧ i < W.heap.size) w7 q k d hs ds := ((hL.mono (M' := fun i => w4.heap.size ≤ i ∧ i < W.heap.size) fun i h1 h2 => ⟨h2, h1⟩).keep0 kd).keep0 k7
    have sz5 : W.heap.size ≤ w5.drew.heap.size := k5.size
    refine hL7.app (x := (p6, es.length, c6)) (M' := fun i => w4.heap.size ≤ i) (hO6.keep0 k7) (fun j hj => ⟨by have := hf6 j hj; show w4.heap.size ≤ j; omega, fun h => by have := hf6 j hj; omega⟩) (fun i h => h.1) (by omega) hB7 fun p' c' w8 hL' k8 => ?_
    have z8 := k8.size
    have hb5lt : b5 < w4.heap.size := hB5b.lt
    have hb2lt : b2 < w4.heap.size := hB2w.lt
    have hB8 : Blk w8 b5 [I nv, .slice q k d] 24 := hB7'.keep k8 fun h => by have := h.1; omega
    have hA8 : Blk w8 b2 [I nv, .slice p n c] 24 := ((hA.keep0 kd).keep0 k7).keep k8 fun h => by have := h.1; omega
    refine st_of hB8 (by simp) rfl fun w9 hB9 k9 z9 => ?_
    have kall : Keep None w w9 := (((kW.trans kd fun _ _ h => h).trans k7 fun _ _ h => h).trans k8 fun i hi h => by have := h.1; omega).trans k9 fun i hi h => by have h' : i = b5 := h; omega
    refine ⟨p', k + 1, c', hs ++ [(p6, es.length, c6)], ds ++ [es], by omega, hA8.keep1 k9 (by omega), hB9, ?_, kall, by omega, ?_⟩
    · refine (hL'.mono (M' := fun i => w4.heap.size ≤ i) fun i _ h => ?_).keep k9 fun i hi h => by have h' : i = b5 := h; have hi' : w4.heap.size ≤ i := hi; omega
      rcases h.2 with h | h
      · exact h
      · show w4.heap.size ≤ i; omega
    · intro e he
      rcases List.mem_append.1 he with he | he
      · exact hD e he
      · rw [List.mem_singleton.1 he]; exact ⟨hmm, htrue⟩
  · have hge : i = n := by simp at hge; omega
    subst hge
    refine ldI_of (x := nv) (hB.cell 0) ?_
    refine ldC_of (x := q) (n := k) (c := d) (hB.cell 1) ?_
    have hLb : LL (fun j => w4.heap.size ≤ j ∧ j < W.heap.size) W q k d hs ds := hL.mono fun i h1 h2 => ⟨h2, h1⟩
    have hRC := LLrdc hLb
    have hdl : ∀ es ∈ ds, es.length ≤ 1048576 := fun es he => (hC.lb es (hD es he).1).1
    refine cl_of ok12 (copyF11 hRC (by omega) fun es he => by have := hdl es he; omega) fun e w5 ⟨p5, c5, hs5, he, hL5, k5⟩ => ⟨nv, p5, k, c5, he, ?_⟩
    have hL5b : LL (fun j => j < w5.heap.size) w5 p5 k c5 hs5 ds := hL5.mono fun i h1 _ => h1
    refine cl_of ok9 (ge_new (LLrdc hL5b) (fun j hj => hj) (by omega) hdl) fun e w6 ⟨gq, v6, he, hN⟩ => ⟨gq, v6, he, ?_⟩
    have k56 := k5.then0 (show Keep None w5 w6 by
      rcases hN with ⟨_, _, _, h⟩ | ⟨_, _, _, _, _, _, _, h⟩ <;> exact h)
    have kW6 := kW.then0 k56
    rcases hN with ⟨rfl, rfl, _, _⟩ | ⟨hf, rfl, b, M, rfl, hG, hM, k6⟩
    · exact pif_t rfl ⟨rfl, kW6⟩
    refine pif_f rfl ?_
    have hA6 := hA.keep0 k56; have hB6 := hB.keep0 k56
    have hL6 := hLb.keep0 k56
    have hdn : ds.length = k := hL.len
    have hnvN : nv.toNat ≤ 1048576 := by have := hf.2.1; omega
    have hT : Tru (fun x => tru m x = true) ds := ⟨fun x h => tru_not m x h, fun x h => tru_tot m x h, fun e he => (hD e he).2⟩
    obtain ⟨g1, g2, _, _, g3, _, _, _, _, g4⟩ := newE_ni hnvN (css := ds) (by omega) hdl hf.2.2
    have hMo : Mo (fun x => tru m x = true) (newE nv.toNat ds) := fun c' hc' => by unfold learntsS at hc'; rw [g3] at hc'; cases hc'
    have hb5lt : b5 < w4.heap.size := hB5b.lt
    have hb2lt : b2 < w4.heap.size := hB2w.lt
    have sW6 := k56.size; have sw5 := k5.size
    have hxl := hS.len
    refine lp_of (fun s W' => ∃ j : Nat, s.1 = j ∧ j ≤ sn ∧ Fo w m W.heap.size b ds (ds.length + j) (ds.length * 1048577 + j * 1048577) nv.toNat W' ∧ Blk W' b2 [I nv, .slice p i c] 24 ∧ Blk W' b5 [I nv, .slice q k d] 24 ∧ LL (fun j => w4.heap.size ≤ j ∧ j < W.heap.size) W' q k d hs ds) (fun s _ => (sn - s.1).toNat)
      ⟨0, rfl, Nat.zero_le _, ⟨⟨M, _, hG.mono (by omega) (by omega), fun j hj => Nat.le_trans sw5 (hM j hj), g2, hMo, g4⟩, kW6⟩, hA6, hB6, hL6⟩ ?_
    rintro ⟨j', ⟨⟩⟩ W1 ⟨j, rfl, hj, ⟨⟨M1, S1, hG1, hM1, hn1, hMo1, hd1⟩, kW1⟩, hA1, hB1, hL1⟩
    dsimp only
    refine pif_of (fun hlt => ?_) fun hge => ?_
    · have hlt : j < sn := by simpa using hlt
      rw [wrap_nat j (by omega)]
      have kd1 : Keep None W1 W1.drew := (Keep.refl None W1).drew
      refine ldI_of (x := nv) (hA1.drew.cell 0) ?_
      have hnvi : nv = ((nv.toNat : Nat) : Int) := by have := hf.1; omega
      refine hS.ix (kW1.then0 kd1) hlt fun a x hx c0 c1 c2 c3 i1 i2 => ldI_of c0 (ldI_of c1 (ldI_of c2 (ldB_of c3 ?_)))
      have hcap : cap = 549755813888 := rfl
      have htk := takenE (vars := nv.toNat) hnvN (kd := x.kd) (wh := x.wh) (nn := x.n) (ask := x.ask) i2 (hG1.keep0 kd1) (by omega) (by omega)
      rw [← hnvi] at htk
      refine cl_of ok16 htk fun e w7 ⟨M2, S2, he, hA2, hst⟩ => ⟨he, ?_⟩
      obtain ⟨hMo2, hd2⟩ := stp_mo hG1.iq hT hMo1 hd1 hst
      have hn2 := (stp_nv hG1.iq hst).trans hn1
      have hG2 := hA2.ge
      have hM2 : ∀ i, M2 i → W.heap.size ≤ i := fun i hi => by
        rcases hA2.gr i hi with q | q
        · exact hM1 i q
        · have := kW1.size; have : W.heap.size ≤ W1.heap.size := by
            have := hG1.lt b hG1.blk
            have hz := hL1
            exact Nat.le_of_lt_succ (Nat.lt_succ_of_le (by
              have h3 := hM1 b hG1.blk
              omega))
          have q' : W1.heap.size ≤ i := q
          omega
      have kp2 : Keep (fun i => W.heap.size ≤ i) W1 w7 := (kd1.none).trans (hA2.kp.mono fun i hi h => hM1 i h) fun i _ h => h
      have sW : w.heap.size ≤ W.heap.size := kW.size
      have kW2 : Keep None w w7 := kW1.trans kp2 fun i hi h => by have h' : W.heap.size ≤ i := h; omega
      have hA7 := hA1.keep kp2 (show ¬ W.heap.size ≤ b2 by omega)
      have hB7 := hB1.keep kp2 (show ¬ W.heap.size ≤ b5 by omega)
      have hL7 := hL1.keep kp2 fun i hi h => by have h' : W.heap.size ≤ i := h; have := hi.2; omega
      refine cl_of ok22 (ge_dead hG2) fun e w8 ⟨he, hw8⟩ => ⟨_, he, ?_⟩
      subst hw8
      rw [hd2]
      refine pif_f rfl ?_
      refine cl_of ok23 (ge_learnts hG2 (by omega)) fun e w9 ⟨lp, ln, lc, lhs, he, hLL, k9⟩ => ⟨lp, ln, lc, he, ?_⟩
      have hln := hLL.len
      have hlnb : ln ≤ 1099511627776 := by have := hG2.sz.g; have : (learntsS S2).length = S2.learnts.length := by unfold learntsS; rw [List.length_map]
                                           omega
      refine lp_of (fun s W' => ∃ t : Nat, s.1 = t ∧ t ≤ ln ∧ Keep None w9 W') (fun s _ => (ln - s.1).toNat) ⟨0, rfl, Nat.zero_le _, Keep.refl _ _⟩ ?_
      rintro ⟨t', ⟨⟩⟩ W3 ⟨t, rfl, ht, k3'⟩
      dsimp only
      refine pif_of (fun hlt2 => ?_) fun hge2 => ?_
      · have hlt2 : t < ln := by simpa using hlt2
        rw [wrap_nat t (by omega)]
        obtain ⟨ec, hec⟩ := getE (show t < (learntsS S2).length by omega)
        have hecm := List.mem_of_getElem? hec
        obtain ⟨kk, dd, _, hdd, _, hed⟩ := (mem_learnts hG2.iq.cz).1 hecm
        have hwf := hG2.iq.iz.hl kk dd hdd
        have hnvS := hG2.iq.iz.nv
        refine ((LLrdc hLL).keep0 k3').ix hec fun a q2 m2 c2' ha hRd _ _ => ldC_of ha ?_
        refine cl_of ok20 (holdsE (((hm.keep0 kW2).keep0 k9).keep0 k3') (by omega) hRd (by rw [← hRd.len, hed]; omega) (fun y hy => by
          rw [hed] at hy
          obtain ⟨_, y1, y2⟩ := hwf.1 y hy
          exact ⟨by omega, by omega⟩)) fun e w10 ⟨r, he, hr, k10⟩ => ⟨r, he, ?_⟩
        have : r = true := hr.2 (hMo2 ec hecm)
        subst this
        exact pif_f rfl ⟨⟨t + 1, rfl, hlt2, k3'.then0 k10⟩, by omega⟩
      · have kk3 := k9.then0 k3'
        have hG3 := hG2.keep0 kk3
        refine cl_of ok24 (ge_model hG3) fun e w10 hh => ?_
        have fin : ∀ {W' : World}, Keep None W3 W' → (∃ j_1 : Nat, ((j : Int) + 1) = j_1 ∧ j_1 ≤ sn ∧ Fo w m W.heap.size b ds (ds.length + j_1) (ds.length * 1048577 + j_1 * 1048577) nv.toNat W' ∧ Blk W' b2 [I nv, .slice p i c] 24 ∧ Blk W' b5 [I nv, .slice q k d] 24 ∧ LL (fun j => w4.heap.size ≤ j ∧ j < W.heap.size) W' q k d hs ds) ∧ ((sn : Int) - ((j : Int) + 1)).toNat < ((sn : Int) - (j : Int)).toNat := fun {W'} kk => by
          have k' := kk3.then0 kk
          refine ⟨⟨j + 1, rfl, hlt, ⟨⟨M2, S2, (hG2.keep0 k').mono (by omega) (by rw [hn1]; omega), hM2, hn2, hMo2, hd2⟩, kW2.then0 k'⟩, hA7.keep0 k', hB7.keep0 k', hL7.keep0 k'⟩, by omega⟩
        rcases hh with ⟨_, he, k10⟩ | ⟨mm, p10, c10, hmm, hml, he, hO10, hf10, k10⟩
        · exact ⟨none, 0, 0, false, he, gd_f rfl (gd_f rfl (gd_f rfl (pif_f rfl (fin k10))))⟩
        · have k' := kk3.then0 k10
          have hB10 := hB7.keep0 k'
          have hL10 := hL7.keep0 k'
          refine ⟨p10, _, c10, true, he, gd_t rfl (ldI_of (x := nv) (hB10.cell 0) (ldC_of (x := q) (n := k) (c := d) (hB10.cell 1) (gd_t rfl ?_)))⟩
          refine cl_of ok12 (copyF11 (LLrdc hL10) (show k ≤ 8796093022208 by omega) fun es he => by have := hdl es he; omega) fun e w11 ⟨p11, c11, hs11, he, hL11, k11⟩ => ⟨nv, p11, k, c11, he, gd_t rfl ?_⟩
          refine cl_of ok25 (satS (LLrdc hL11) (show k ≤ 17592186044416 by omega) (fun es he => by have := hdl es he; omega) ((own_rdb hO10).keep0 k11)) fun e w12 ⟨r, he, hr, k12⟩ => ⟨r, he, ?_⟩
          have hrt : r = true := hr.2 ⟨hf, by rw [hn2]; omega, fun es he => model_sat hG2.iq hmm es (List.mem_append_left _ he)⟩
          subst hrt
          exact pif_f rfl (fin ((k10.then0 k11).then0 k12))
    · exact fol_end kW1
end Go.Proofs.YtmhjehodfggleaaGreat.Eng
