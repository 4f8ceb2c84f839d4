/- The conditions under which the functions printed here return, as propositions over typed values; each is the machine's own, by the generator's theorem. -/

import Derived.Test.YtmhjehodfggleaaGreatProg
import Derived.Test.YtmhjehodfggleaaGreatMTTrail
import Derived.Test.YtmhjehodfggleaaGreatMVcM
import Derived.Test.YtmhjehodfggleaaGreatMArena
set_option linter.unusedVariables false
set_option maxRecDepth 100000
namespace Go.Proofs.YtmhjehodfggleaaGreat.T
open Go Go.Proofs.YtmhjehodfggleaaGreat.Vc
def V9 (a0_0:Int) (a0_1:Option Addr) (a0_1n:Nat) (a0_1c:Nat) (w:World) (R:Value→World→Prop):Prop:=
 alc w [.int .i64 a0_0,.slice a0_1 a0_1n a0_1c] 24 fun b2 w1=>
 ldI .i64 w1 ((⟨b2,0,none⟩:Addr).add 0) fun x4=>
 ldC w1 ((⟨b2,0,none⟩:Addr).add 1) fun x5 x5n x5c=>
 cl Tryz.prog 42 [.agg #[.int .i64 x4,.slice x5 x5n x5c]] w1 fun e7 w2=>∃x6:Bool,e7=Ending.returned (.bool x6)∧
 pif (!x6) (
  R (.tuple #[.pointer none,.int .i64 1]) w2) (
  ldI .i64 w2 ((⟨b2,0,none⟩:Addr).add 0) fun x10=>
  cl Tryz.prog 43 [.int .i64 x10] w2 fun e13 w3=>∃x11:Option Addr,∃x12:Int,e13=Ending.returned (.tuple #[.pointer x11,.int .i64 x12])∧
  ldI .i64 (World.drew w3) ((⟨b2,0,none⟩:Addr).add 0) fun x14=>
  ldI .i64 (World.drew w3) ((⟨b2,0,none⟩:Addr).add 0) fun x15=>
  (
   cl Tryz.prog 44 [] (World.drew w3) fun e17 w4=>∃x16:Option Addr,e17=Ending.returned (.pointer x16)∧
   (
    ldI .i64 w4 ((⟨b2,0,none⟩:Addr).add 0) fun x18=>
    ((.int .i64 x18:Value)=.int .i64 x15))∧
   (
    ldI .i64 w4 ((⟨b2,0,none⟩:Addr).add 0) fun x19=>
    ((.int .i64 x19:Value)=.int .i64 x14))∧
   (
    ∃(x20:Option Addr) (x20n x20c:Nat),∃w5:World,(Instr.makeSlice 97 (.int .i64 (IntKind.wrap .i64 (2*x15))) (.int .i64 (IntKind.wrap .i64 (2*x15)))).run Tryz.prog w4=.ok (.slice x20 x20n x20c) w5∧
    (
     ldI .i64 w5 ((⟨b2,0,none⟩:Addr).add 0) fun x21=>
     ((.int .i64 x21:Value)=.int .i64 x14))∧
    alc w5 [.slice none 0 0] 100 fun b22 w6=>
    (
     ldI .i64 w6 ((⟨b2,0,none⟩:Addr).add 0) fun x23=>
     ((.int .i64 x23:Value)=.int .i64 x15))∧
    (
     ldI .i64 w6 ((⟨b2,0,none⟩:Addr).add 0) fun x24=>
     ((.int .i64 x24:Value)=.int .i64 x14))∧
    alc w6 [.int .i64 x14,.pointer x16,.pointer x11,.slice none 0 0,.slice x20 x20n x20c,.slice none 0 0,.slice none 0 0,.iface 98 (.pointer (some (⟨b22,0,none⟩:Addr))),.int .i64 0,.bool false,.bool false,.bool false,.int .i64 0] 106 fun b25 w7=>
    ldC w7 ((⟨b2,0,none⟩:Addr).add 1) fun x27 x27n x27c=>
    lp (σ:=Int×Unit) (fun s30 w8 k29=>match s30 with
     | (v28,_)=>
     pif (decide (v28<(x27n:Int))) (
      jn (σ:=Unit) (fun k32=>
       ixA x27 x27n v28 1 fun p35=>
       ldC w8 p35 fun x36 x36n x36c=>
       ldP w8 ((⟨b25,0,none⟩:Addr).add 1) fun x38=>
       cl Tryz.prog 45 [.pointer x38,.slice x36 x36n x36c,.bool false] w8 fun e41 w10=>∃x39:Int,∃x40:Int,e41=Ending.returned (.tuple #[.int .i64 x39,.int .i64 x40])∧
       cl Tryz.prog 46 [.slice x36 x36n x36c] w10 fun e44 w11=>∃x43:Bool,e44=Ending.returned (.bool x43)∧
       pif x43 (
        k32 (()) w11) (
        cl Tryz.prog 47 [.slice x36 x36n x36c] w11 fun e47 w12=>∃(x46:Option Addr) (x46n x46c:Nat),e47=Ending.returned (.slice x46 x46n x46c)∧
        alc w12 [.int .i64 x39,.slice x46 x46n x46c,.int .i64 0,.int .i64 0,.bool false] 113 fun b48 w13=>
        ldC w13 ((⟨b48,0,none⟩:Addr).add 1) fun x50 x50n x50c=>
        pif (decide ((x50n:Int)<2)) (
         ldC w13 ((⟨b25,0,none⟩:Addr).add 5) fun x52 x52n x52c=>
         alc w13 [.pointer (some (⟨b48,0,none⟩:Addr))] 110 fun b53 w14=>
         ∃(x54:Option Addr) (x54n x54c:Nat),∃w15:World,(Builtin.append_ #[101,101] 101 #[.slice x52 x52n x52c,.slice (some (⟨b53,0,none⟩:Addr)) 1 1]).run Tryz.prog w14=.ok (.slice x54 x54n x54c) w15∧
         st w15 (((⟨b25,0,none⟩:Addr).add 5).add 0) (.slice x54 x54n x54c) fun w16=>
         k32 (()) w16) (
         ldC (World.drew w13) ((⟨b48,0,none⟩:Addr).add 1) fun x55 x55n x55c=>
         ixA x55 x55n 0 1 fun p56=>
         ldI .i64 (World.drew w13) p56 fun x57=>
         ldC (World.drew w13) ((⟨b48,0,none⟩:Addr).add 1) fun x58 x58n x58c=>
         ixA x58 x58n 1 1 fun p59=>
         ldI .i64 (World.drew w13) p59 fun x60=>
         cl Tryz.prog 48 [.pointer (some (⟨b25,0,none⟩:Addr)),.pointer (some (⟨b48,0,none⟩:Addr)),.int .i64 x57,.int .i64 x60] (World.drew w13) fun e61 w17=>e61=Ending.returned (.tuple #[])∧
         k32 (()) w17))) fun s33 w9=>match s33 with
      | (_)=>
      k29 ((IntKind.wrap .i64 (v28+1)),()) w9) (
      R (.tuple #[.pointer (some (⟨b25,0,none⟩:Addr)),.int .i64 0]) w8)) (0,()) w7)∧
   (
    alc w4 [.slice none 0 0] 100 fun b64 w18=>
    (
     ldI .i64 w18 ((⟨b2,0,none⟩:Addr).add 0) fun x65=>
     ((.int .i64 x65:Value)=.int .i64 x15))∧
    (
     ldI .i64 w18 ((⟨b2,0,none⟩:Addr).add 0) fun x66=>
     ((.int .i64 x66:Value)=.int .i64 x14))∧
    ∃(x67:Option Addr) (x67n x67c:Nat),∃w19:World,(Instr.makeSlice 97 (.int .i64 (IntKind.wrap .i64 (2*x15))) (.int .i64 (IntKind.wrap .i64 (2*x15)))).run Tryz.prog w18=.ok (.slice x67 x67n x67c) w19∧
    (
     ldI .i64 w19 ((⟨b2,0,none⟩:Addr).add 0) fun x68=>
     ((.int .i64 x68:Value)=.int .i64 x14))∧
    alc w19 [.int .i64 x14,.pointer x16,.pointer x11,.slice none 0 0,.slice x67 x67n x67c,.slice none 0 0,.slice none 0 0,.iface 98 (.pointer (some (⟨b64,0,none⟩:Addr))),.int .i64 0,.bool false,.bool false,.bool false,.int .i64 0] 106 fun b69 w20=>
    ldC w20 ((⟨b2,0,none⟩:Addr).add 1) fun x71 x71n x71c=>
    lp (σ:=Int×Unit) (fun s74 w21 k73=>match s74 with
     | (v72,_)=>
     pif (decide (v72<(x71n:Int))) (
      jn (σ:=Unit) (fun k76=>
       ixA x71 x71n v72 1 fun p79=>
       ldC w21 p79 fun x80 x80n x80c=>
       ldP w21 ((⟨b69,0,none⟩:Addr).add 1) fun x82=>
       cl Tryz.prog 45 [.pointer x82,.slice x80 x80n x80c,.bool false] w21 fun e85 w23=>∃x83:Int,∃x84:Int,e85=Ending.returned (.tuple #[.int .i64 x83,.int .i64 x84])∧
       cl Tryz.prog 46 [.slice x80 x80n x80c] w23 fun e88 w24=>∃x87:Bool,e88=Ending.returned (.bool x87)∧
       pif x87 (
        k76 (()) w24) (
        cl Tryz.prog 47 [.slice x80 x80n x80c] w24 fun e91 w25=>∃(x90:Option Addr) (x90n x90c:Nat),e91=Ending.returned (.slice x90 x90n x90c)∧
        alc w25 [.int .i64 x83,.slice x90 x90n x90c,.int .i64 0,.int .i64 0,.bool false] 113 fun b92 w26=>
        ldC w26 ((⟨b92,0,none⟩:Addr).add 1) fun x94 x94n x94c=>
        pif (decide ((x94n:Int)<2)) (
         ldC w26 ((⟨b69,0,none⟩:Addr).add 5) fun x96 x96n x96c=>
         alc w26 [.pointer (some (⟨b92,0,none⟩:Addr))] 110 fun b97 w27=>
         ∃(x98:Option Addr) (x98n x98c:Nat),∃w28:World,(Builtin.append_ #[101,101] 101 #[.slice x96 x96n x96c,.slice (some (⟨b97,0,none⟩:Addr)) 1 1]).run Tryz.prog w27=.ok (.slice x98 x98n x98c) w28∧
         st w28 (((⟨b69,0,none⟩:Addr).add 5).add 0) (.slice x98 x98n x98c) fun w29=>
         k76 (()) w29) (
         ldC (World.drew w26) ((⟨b92,0,none⟩:Addr).add 1) fun x99 x99n x99c=>
         ixA x99 x99n 0 1 fun p100=>
         ldI .i64 (World.drew w26) p100 fun x101=>
         ldC (World.drew w26) ((⟨b92,0,none⟩:Addr).add 1) fun x102 x102n x102c=>
         ixA x102 x102n 1 1 fun p103=>
         ldI .i64 (World.drew w26) p103 fun x104=>
         cl Tryz.prog 48 [.pointer (some (⟨b69,0,none⟩:Addr)),.pointer (some (⟨b92,0,none⟩:Addr)),.int .i64 x101,.int .i64 x104] (World.drew w26) fun e105 w30=>e105=Ending.returned (.tuple #[])∧
         k76 (()) w30))) fun s77 w22=>match s77 with
      | (_)=>
      k73 ((IntKind.wrap .i64 (v72+1)),()) w22) (
      R (.tuple #[.pointer (some (⟨b69,0,none⟩:Addr)),.int .i64 0]) w21)) (0,()) w20))∧
  (
   ∃(x108:Option Addr) (x108n x108c:Nat),∃w31:World,(Instr.makeSlice 97 (.int .i64 (IntKind.wrap .i64 (2*x15))) (.int .i64 (IntKind.wrap .i64 (2*x15)))).run Tryz.prog (World.drew w3)=.ok (.slice x108 x108n x108c) w31∧
   (
    ldI .i64 w31 ((⟨b2,0,none⟩:Addr).add 0) fun x109=>
    ((.int .i64 x109:Value)=.int .i64 x14))∧
   (
    cl Tryz.prog 44 [] w31 fun e111 w32=>∃x110:Option Addr,e111=Ending.returned (.pointer x110)∧
    (
     ldI .i64 w32 ((⟨b2,0,none⟩:Addr).add 0) fun x112=>
     ((.int .i64 x112:Value)=.int .i64 x15))∧
    (
     ldI .i64 w32 ((⟨b2,0,none⟩:Addr).add 0) fun x113=>
     ((.int .i64 x113:Value)=.int .i64 x14))∧
    alc w32 [.slice none 0 0] 100 fun b114 w33=>
    (
     ldI .i64 w33 ((⟨b2,0,none⟩:Addr).add 0) fun x115=>
     ((.int .i64 x115:Value)=.int .i64 x15))∧
    (
     ldI .i64 w33 ((⟨b2,0,none⟩:Addr).add 0) fun x116=>
     ((.int .i64 x116:Value)=.int .i64 x14))∧
    alc w33 [.int .i64 x14,.pointer x110,.pointer x11,.slice none 0 0,.slice x108 x108n x108c,.slice none 0 0,.slice none 0 0,.iface 98 (.pointer (some (⟨b114,0,none⟩:Addr))),.int .i64 0,.bool false,.bool false,.bool false,.int .i64 0] 106 fun b117 w34=>
    ldC w34 ((⟨b2,0,none⟩:Addr).add 1) fun x119 x119n x119c=>
    lp (σ:=Int×Unit) (fun s122 w35 k121=>match s122 with
     | (v120,_)=>
     pif (decide (v120<(x119n:Int))) (
      jn (σ:=Unit) (fun k124=>
       ixA x119 x119n v120 1 fun p127=>
       ldC w35 p127 fun x128 x128n x128c=>
       ldP w35 ((⟨b117,0,none⟩:Addr).add 1) fun x130=>
       cl Tryz.prog 45 [.pointer x130,.slice x128 x128n x128c,.bool false] w35 fun e133 w37=>∃x131:Int,∃x132:Int,e133=Ending.returned (.tuple #[.int .i64 x131,.int .i64 x132])∧
       cl Tryz.prog 46 [.slice x128 x128n x128c] w37 fun e136 w38=>∃x135:Bool,e136=Ending.returned (.bool x135)∧
       pif x135 (
        k124 (()) w38) (
        cl Tryz.prog 47 [.slice x128 x128n x128c] w38 fun e139 w39=>∃(x138:Option Addr) (x138n x138c:Nat),e139=Ending.returned (.slice x138 x138n x138c)∧
        alc w39 [.int .i64 x131,.slice x138 x138n x138c,.int .i64 0,.int .i64 0,.bool false] 113 fun b140 w40=>
        ldC w40 ((⟨b140,0,none⟩:Addr).add 1) fun x142 x142n x142c=>
        pif (decide ((x142n:Int)<2)) (
         ldC w40 ((⟨b117,0,none⟩:Addr).add 5) fun x144 x144n x144c=>
         alc w40 [.pointer (some (⟨b140,0,none⟩:Addr))] 110 fun b145 w41=>
         ∃(x146:Option Addr) (x146n x146c:Nat),∃w42:World,(Builtin.append_ #[101,101] 101 #[.slice x144 x144n x144c,.slice (some (⟨b145,0,none⟩:Addr)) 1 1]).run Tryz.prog w41=.ok (.slice x146 x146n x146c) w42∧
         st w42 (((⟨b117,0,none⟩:Addr).add 5).add 0) (.slice x146 x146n x146c) fun w43=>
         k124 (()) w43) (
         ldC (World.drew w40) ((⟨b140,0,none⟩:Addr).add 1) fun x147 x147n x147c=>
         ixA x147 x147n 0 1 fun p148=>
         ldI .i64 (World.drew w40) p148 fun x149=>
         ldC (World.drew w40) ((⟨b140,0,none⟩:Addr).add 1) fun x150 x150n x150c=>
         ixA x150 x150n 1 1 fun p151=>
         ldI .i64 (World.drew w40) p151 fun x152=>
         cl Tryz.prog 48 [.pointer (some (⟨b117,0,none⟩:Addr)),.pointer (some (⟨b140,0,none⟩:Addr)),.int .i64 x149,.int .i64 x152] (World.drew w40) fun e153 w44=>e153=Ending.returned (.tuple #[])∧
         k124 (()) w44))) fun s125 w36=>match s125 with
      | (_)=>
      k121 ((IntKind.wrap .i64 (v120+1)),()) w36) (
      R (.tuple #[.pointer (some (⟨b117,0,none⟩:Addr)),.int .i64 0]) w35)) (0,()) w34)∧
   (
    alc w31 [.slice none 0 0] 100 fun b156 w45=>
    (
     ldI .i64 w45 ((⟨b2,0,none⟩:Addr).add 0) fun x157=>
     ((.int .i64 x157:Value)=.int .i64 x15))∧
    (
     ldI .i64 w45 ((⟨b2,0,none⟩:Addr).add 0) fun x158=>
     ((.int .i64 x158:Value)=.int .i64 x14))∧
    cl Tryz.prog 44 [] w45 fun e160 w46=>∃x159:Option Addr,e160=Ending.returned (.pointer x159)∧
    (
     ldI .i64 w46 ((⟨b2,0,none⟩:Addr).add 0) fun x161=>
     ((.int .i64 x161:Value)=.int .i64 x15))∧
    (
     ldI .i64 w46 ((⟨b2,0,none⟩:Addr).add 0) fun x162=>
     ((.int .i64 x162:Value)=.int .i64 x14))∧
    alc w46 [.int .i64 x14,.pointer x159,.pointer x11,.slice none 0 0,.slice x108 x108n x108c,.slice none 0 0,.slice none 0 0,.iface 98 (.pointer (some (⟨b156,0,none⟩:Addr))),.int .i64 0,.bool false,.bool false,.bool false,.int .i64 0] 106 fun b163 w47=>
    ldC w47 ((⟨b2,0,none⟩:Addr).add 1) fun x165 x165n x165c=>
    lp (σ:=Int×Unit) (fun s168 w48 k167=>match s168 with
     | (v166,_)=>
     pif (decide (v166<(x165n:Int))) (
      jn (σ:=Unit) (fun k170=>
       ixA x165 x165n v166 1 fun p173=>
       ldC w48 p173 fun x174 x174n x174c=>
       ldP w48 ((⟨b163,0,none⟩:Addr).add 1) fun x176=>
       cl Tryz.prog 45 [.pointer x176,.slice x174 x174n x174c,.bool false] w48 fun e179 w50=>∃x177:Int,∃x178:Int,e179=Ending.returned (.tuple #[.int .i64 x177,.int .i64 x178])∧
       cl Tryz.prog 46 [.slice x174 x174n x174c] w50 fun e182 w51=>∃x181:Bool,e182=Ending.returned (.bool x181)∧
       pif x181 (
        k170 (()) w51) (
        cl Tryz.prog 47 [.slice x174 x174n x174c] w51 fun e185 w52=>∃(x184:Option Addr) (x184n x184c:Nat),e185=Ending.returned (.slice x184 x184n x184c)∧
        alc w52 [.int .i64 x177,.slice x184 x184n x184c,.int .i64 0,.int .i64 0,.bool false] 113 fun b186 w53=>
        ldC w53 ((⟨b186,0,none⟩:Addr).add 1) fun x188 x188n x188c=>
        pif (decide ((x188n:Int)<2)) (
         ldC w53 ((⟨b163,0,none⟩:Addr).add 5) fun x190 x190n x190c=>
         alc w53 [.pointer (some (⟨b186,0,none⟩:Addr))] 110 fun b191 w54=>
         ∃(x192:Option Addr) (x192n x192c:Nat),∃w55:World,(Builtin.append_ #[101,101] 101 #[.slice x190 x190n x190c,.slice (some (⟨b191,0,none⟩:Addr)) 1 1]).run Tryz.prog w54=.ok (.slice x192 x192n x192c) w55∧
         st w55 (((⟨b163,0,none⟩:Addr).add 5).add 0) (.slice x192 x192n x192c) fun w56=>
         k170 (()) w56) (
         ldC (World.drew w53) ((⟨b186,0,none⟩:Addr).add 1) fun x193 x193n x193c=>
         ixA x193 x193n 0 1 fun p194=>
         ldI .i64 (World.drew w53) p194 fun x195=>
         ldC (World.drew w53) ((⟨b186,0,none⟩:Addr).add 1) fun x196 x196n x196c=>
         ixA x196 x196n 1 1 fun p197=>
         ldI .i64 (World.drew w53) p197 fun x198=>
         cl Tryz.prog 48 [.pointer (some (⟨b163,0,none⟩:Addr)),.pointer (some (⟨b186,0,none⟩:Addr)),.int .i64 x195,.int .i64 x198] (World.drew w53) fun e199 w57=>e199=Ending.returned (.tuple #[])∧
         k170 (()) w57))) fun s171 w49=>match s171 with
      | (_)=>
      k167 ((IntKind.wrap .i64 (v166+1)),()) w49) (
      R (.tuple #[.pointer (some (⟨b163,0,none⟩:Addr)),.int .i64 0]) w48)) (0,()) w47))∧
  (
   alc (World.drew w3) [.slice none 0 0] 100 fun b202 w58=>
   (
    ldI .i64 w58 ((⟨b2,0,none⟩:Addr).add 0) fun x203=>
    ((.int .i64 x203:Value)=.int .i64 x15))∧
   (
    ldI .i64 w58 ((⟨b2,0,none⟩:Addr).add 0) fun x204=>
    ((.int .i64 x204:Value)=.int .i64 x14))∧
   (
    cl Tryz.prog 44 [] w58 fun e206 w59=>∃x205:Option Addr,e206=Ending.returned (.pointer x205)∧
    (
     ldI .i64 w59 ((⟨b2,0,none⟩:Addr).add 0) fun x207=>
     ((.int .i64 x207:Value)=.int .i64 x15))∧
    (
     ldI .i64 w59 ((⟨b2,0,none⟩:Addr).add 0) fun x208=>
     ((.int .i64 x208:Value)=.int .i64 x14))∧
    ∃(x209:Option Addr) (x209n x209c:Nat),∃w60:World,(Instr.makeSlice 97 (.int .i64 (IntKind.wrap .i64 (2*x15))) (.int .i64 (IntKind.wrap .i64 (2*x15)))).run Tryz.prog w59=.ok (.slice x209 x209n x209c) w60∧
    (
     ldI .i64 w60 ((⟨b2,0,none⟩:Addr).add 0) fun x210=>
     ((.int .i64 x210:Value)=.int .i64 x14))∧
    alc w60 [.int .i64 x14,.pointer x205,.pointer x11,.slice none 0 0,.slice x209 x209n x209c,.slice none 0 0,.slice none 0 0,.iface 98 (.pointer (some (⟨b202,0,none⟩:Addr))),.int .i64 0,.bool false,.bool false,.bool false,.int .i64 0] 106 fun b211 w61=>
    ldC w61 ((⟨b2,0,none⟩:Addr).add 1) fun x213 x213n x213c=>
    lp (σ:=Int×Unit) (fun s216 w62 k215=>match s216 with
     | (v214,_)=>
     pif (decide (v214<(x213n:Int))) (
      jn (σ:=Unit) (fun k218=>
       ixA x213 x213n v214 1 fun p221=>
       ldC w62 p221 fun x222 x222n x222c=>
       ldP w62 ((⟨b211,0,none⟩:Addr).add 1) fun x224=>
       cl Tryz.prog 45 [.pointer x224,.slice x222 x222n x222c,.bool false] w62 fun e227 w64=>∃x225:Int,∃x226:Int,e227=Ending.returned (.tuple #[.int .i64 x225,.int .i64 x226])∧
       cl Tryz.prog 46 [.slice x222 x222n x222c] w64 fun e230 w65=>∃x229:Bool,e230=Ending.returned (.bool x229)∧
       pif x229 (
        k218 (()) w65) (
        cl Tryz.prog 47 [.slice x222 x222n x222c] w65 fun e233 w66=>∃(x232:Option Addr) (x232n x232c:Nat),e233=Ending.returned (.slice x232 x232n x232c)∧
        alc w66 [.int .i64 x225,.slice x232 x232n x232c,.int .i64 0,.int .i64 0,.bool false] 113 fun b234 w67=>
        ldC w67 ((⟨b234,0,none⟩:Addr).add 1) fun x236 x236n x236c=>
        pif (decide ((x236n:Int)<2)) (
         ldC w67 ((⟨b211,0,none⟩:Addr).add 5) fun x238 x238n x238c=>
         alc w67 [.pointer (some (⟨b234,0,none⟩:Addr))] 110 fun b239 w68=>
         ∃(x240:Option Addr) (x240n x240c:Nat),∃w69:World,(Builtin.append_ #[101,101] 101 #[.slice x238 x238n x238c,.slice (some (⟨b239,0,none⟩:Addr)) 1 1]).run Tryz.prog w68=.ok (.slice x240 x240n x240c) w69∧
         st w69 (((⟨b211,0,none⟩:Addr).add 5).add 0) (.slice x240 x240n x240c) fun w70=>
         k218 (()) w70) (
         ldC (World.drew w67) ((⟨b234,0,none⟩:Addr).add 1) fun x241 x241n x241c=>
         ixA x241 x241n 0 1 fun p242=>
         ldI .i64 (World.drew w67) p242 fun x243=>
         ldC (World.drew w67) ((⟨b234,0,none⟩:Addr).add 1) fun x244 x244n x244c=>
         ixA x244 x244n 1 1 fun p245=>
         ldI .i64 (World.drew w67) p245 fun x246=>
         cl Tryz.prog 48 [.pointer (some (⟨b211,0,none⟩:Addr)),.pointer (some (⟨b234,0,none⟩:Addr)),.int .i64 x243,.int .i64 x246] (World.drew w67) fun e247 w71=>e247=Ending.returned (.tuple #[])∧
         k218 (()) w71))) fun s219 w63=>match s219 with
      | (_)=>
      k215 ((IntKind.wrap .i64 (v214+1)),()) w63) (
      R (.tuple #[.pointer (some (⟨b211,0,none⟩:Addr)),.int .i64 0]) w62)) (0,()) w61)∧
   (
    ∃(x250:Option Addr) (x250n x250c:Nat),∃w72:World,(Instr.makeSlice 97 (.int .i64 (IntKind.wrap .i64 (2*x15))) (.int .i64 (IntKind.wrap .i64 (2*x15)))).run Tryz.prog w58=.ok (.slice x250 x250n x250c) w72∧
    (
     ldI .i64 w72 ((⟨b2,0,none⟩:Addr).add 0) fun x251=>
     ((.int .i64 x251:Value)=.int .i64 x14))∧
    cl Tryz.prog 44 [] w72 fun e253 w73=>∃x252:Option Addr,e253=Ending.returned (.pointer x252)∧
    (
     ldI .i64 w73 ((⟨b2,0,none⟩:Addr).add 0) fun x254=>
     ((.int .i64 x254:Value)=.int .i64 x15))∧
    (
     ldI .i64 w73 ((⟨b2,0,none⟩:Addr).add 0) fun x255=>
     ((.int .i64 x255:Value)=.int .i64 x14))∧
    alc w73 [.int .i64 x14,.pointer x252,.pointer x11,.slice none 0 0,.slice x250 x250n x250c,.slice none 0 0,.slice none 0 0,.iface 98 (.pointer (some (⟨b202,0,none⟩:Addr))),.int .i64 0,.bool false,.bool false,.bool false,.int .i64 0] 106 fun b256 w74=>
    ldC w74 ((⟨b2,0,none⟩:Addr).add 1) fun x258 x258n x258c=>
    lp (σ:=Int×Unit) (fun s261 w75 k260=>match s261 with
     | (v259,_)=>
     pif (decide (v259<(x258n:Int))) (
      jn (σ:=Unit) (fun k263=>
       ixA x258 x258n v259 1 fun p266=>
       ldC w75 p266 fun x267 x267n x267c=>
       ldP w75 ((⟨b256,0,none⟩:Addr).add 1) fun x269=>
       cl Tryz.prog 45 [.pointer x269,.slice x267 x267n x267c,.bool false] w75 fun e272 w77=>∃x270:Int,∃x271:Int,e272=Ending.returned (.tuple #[.int .i64 x270,.int .i64 x271])∧
       cl Tryz.prog 46 [.slice x267 x267n x267c] w77 fun e275 w78=>∃x274:Bool,e275=Ending.returned (.bool x274)∧
       pif x274 (
        k263 (()) w78) (
        cl Tryz.prog 47 [.slice x267 x267n x267c] w78 fun e278 w79=>∃(x277:Option Addr) (x277n x277c:Nat),e278=Ending.returned (.slice x277 x277n x277c)∧
        alc w79 [.int .i64 x270,.slice x277 x277n x277c,.int .i64 0,.int .i64 0,.bool false] 113 fun b279 w80=>
        ldC w80 ((⟨b279,0,none⟩:Addr).add 1) fun x281 x281n x281c=>
        pif (decide ((x281n:Int)<2)) (
         ldC w80 ((⟨b256,0,none⟩:Addr).add 5) fun x283 x283n x283c=>
         alc w80 [.pointer (some (⟨b279,0,none⟩:Addr))] 110 fun b284 w81=>
         ∃(x285:Option Addr) (x285n x285c:Nat),∃w82:World,(Builtin.append_ #[101,101] 101 #[.slice x283 x283n x283c,.slice (some (⟨b284,0,none⟩:Addr)) 1 1]).run Tryz.prog w81=.ok (.slice x285 x285n x285c) w82∧
         st w82 (((⟨b256,0,none⟩:Addr).add 5).add 0) (.slice x285 x285n x285c) fun w83=>
         k263 (()) w83) (
         ldC (World.drew w80) ((⟨b279,0,none⟩:Addr).add 1) fun x286 x286n x286c=>
         ixA x286 x286n 0 1 fun p287=>
         ldI .i64 (World.drew w80) p287 fun x288=>
         ldC (World.drew w80) ((⟨b279,0,none⟩:Addr).add 1) fun x289 x289n x289c=>
         ixA x289 x289n 1 1 fun p290=>
         ldI .i64 (World.drew w80) p290 fun x291=>
         cl Tryz.prog 48 [.pointer (some (⟨b256,0,none⟩:Addr)),.pointer (some (⟨b279,0,none⟩:Addr)),.int .i64 x288,.int .i64 x291] (World.drew w80) fun e292 w84=>e292=Ending.returned (.tuple #[])∧
         k263 (()) w84))) fun s264 w76=>match s264 with
      | (_)=>
      k260 ((IntKind.wrap .i64 (v259+1)),()) w76) (
      R (.tuple #[.pointer (some (⟨b256,0,none⟩:Addr)),.int .i64 0]) w75)) (0,()) w74)))
def An9:An:=.seq (.leaf) (.seq (.seq (.leaf) (.cond (.seq (.leaf) (.leaf)) (.leaf))) (.seq (.leaf) (.seq (.draw [0,1,0,0,0,16,48,112,0,256,768,2047,4095,8191]) (.seq (.seq (.leaf) (.blk (.loop [(37,.one (.int .i64))] (.seq (.leaf) (.seq (.cond (.leaf) (.leaf)) (.seq (.join [] (.blk (.seq (.leaf) (.seq (.leaf) (.seq (.seq (.leaf) (.cond (.leaf) (.leaf))) (.seq (.leaf) (.seq (.seq (.leaf) (.cond (.seq (.leaf) (.leaf)) (.leaf))) (.draw [0,0,0,4,12,28,60,124,0,256,768,1792,3840,7936,16383])))))))) (.leaf))))))) (.seq (.leaf) (.leaf))))))
theorem V9_eq (a0_0:Int) (a0_1:Option Addr) (a0_1n:Nat) (a0_1c:Nat) (w:World) (R:Value→World→Prop):evF Tryz.prog Tryz.f9 An9 [.agg #[.int .i64 a0_0,.slice a0_1 a0_1n a0_1c]] w R=V9 a0_0 a0_1 a0_1n a0_1c w R:=by kernel_rfl
theorem V9_calls (a0_0:Int) (a0_1:Option Addr) (a0_1n:Nat) (a0_1c:Nat) (w:World) (R:Value→World→Prop) (h:V9 a0_0 a0_1 a0_1n a0_1c w R):Calls Tryz.prog 9 #[.agg #[.int .i64 a0_0,.slice a0_1 a0_1n a0_1c]] w fun e w'=>∃v,e=.returned v∧R v w':=
 calls_of_ev (args:=[.agg #[.int .i64 a0_0,.slice a0_1 a0_1n a0_1c]]) Tryz.func9 (Nat.le_of_ble_eq_true (by kernel_rfl)) (by rw [V9_eq]; exact h)
theorem ok9:fnOk Tryz.prog 9=true:=by kernel_rfl
def V61 (a0:Option Addr) (a1:Int) (w:World) (R:Value→World→Prop):Prop:=
 cl Tryz.prog 90 [.int .i64 a1] (World.drew w) fun e3 w1=>∃x2:Bool,e3=Ending.returned (.bool x2)∧
 gd (α:=Addr) (!(!x2)) (fun k4=>
  nn a0 fun p5=>
  k4 p5 w1) ⟨0,0,none⟩ w1 fun x6 _=>
 gd (α:=Int) (!(!x2)) (fun k7=>
  ldI .i64 w1 (x6.add 0) fun x8=>
  k7 x8 w1) 0 w1 fun x9 _=>
 gd (α:=Int) (!(!x2)) (fun k10=>
  cl Tryz.prog 103 [.int .i64 a1] w1 fun e12 w2=>∃x11:Int,e12=Ending.returned (.int .i64 x11)∧
  k10 x11 w2) 0 w1 fun x13 w3=>
 ((!(!x2))=true→
  ldI .i64 w3 (x6.add 0) fun x14=>
  ((.int .i64 x14:Value)=.int .i64 x9))∧
 pif (cond (!x2) true (decide (x13>x9))) (
  R (.int .i64 1) w3) (
  nn a0 fun p17=>
  ldB w3 (p17.add 9) fun x18=>
  pif (!x18) (
   R (.int .i64 3) w3) (
   nn a0 fun p21=>
   ldP w3 (p21.add 2) fun x22=>
   cl Tryz.prog 72 [.pointer x22,.int .i64 a1] w3 fun e24 w4=>∃x23:Int,e24=Ending.returned (.int .i8 x23)∧
   pif (x23 != 0) (
    R (.int .i64 50) w4) (
    nn a0 fun p27=>
    ldP w4 (p27.add 2) fun x28=>
    cl Tryz.prog 106 [.pointer x28,.int .i64 a1] w4 fun e30 w5=>∃x29:Int,e30=Ending.returned (.int .i64 x29)∧
    nn a0 fun p32=>
    ldC w5 (p32.add 3) fun x33 x33n x33c=>
    alc w5 [.int .i64 a1] 3 fun b34 w6=>
    ∃(x35:Option Addr) (x35n x35c:Nat),∃w7:World,(Builtin.append_ #[49,49] 49 #[.slice x33 x33n x33c,.slice (some (⟨b34,0,none⟩:Addr)) 1 1]).run Tryz.prog w6=.ok (.slice x35 x35n x35c) w7∧
    nn a0 fun p36=>
    st w7 ((p36.add 3).add 0) (.slice x35 x35n x35c) fun w8=>
    nn a0 fun p38=>
    st w8 ((p38.add 9).add 0) (.bool false) fun w9=>
    R (.int .i64 0) w9)))
def An61:An:=.seq (.leaf) (.seq (.blk (.seq (.draw [0,1,3,7,15,31,15,79,207,463,1023,2047,4095]) (.cond (.seq (.leaf) (.leaf)) (.seq (.leaf) (.cond (.seq (.leaf) (.leaf)) (.seq (.leaf) (.cond (.seq (.leaf) (.leaf)) (.leaf)))))))) (.seq (.leaf) (.seq (.leaf) (.seq (.leaf) (.seq (.leaf) (.leaf))))))
theorem V61_eq (a0:Option Addr) (a1:Int) (w:World) (R:Value→World→Prop):evF Tryz.prog Tryz.f61 An61 [.pointer a0,.int .i64 a1] w R=V61 a0 a1 w R:=by kernel_rfl
theorem V61_calls (a0:Option Addr) (a1:Int) (w:World) (R:Value→World→Prop) (h:V61 a0 a1 w R):Calls Tryz.prog 61 #[.pointer a0,.int .i64 a1] w fun e w'=>∃v,e=.returned v∧R v w':=
 calls_of_ev (args:=[.pointer a0,.int .i64 a1]) Tryz.func61 (Nat.le_of_ble_eq_true (by kernel_rfl)) (by rw [V61_eq]; exact h)
theorem ok61:fnOk Tryz.prog 61=true:=by kernel_rfl
def V26 (a0:Option Addr) (w:World) (R:Value→World→Prop):Prop:=
 nn a0 fun p3=>
 ldB w (p3.add 11) fun x4=>
 gd (α:=Addr) (!x4) (fun k5=>
  nn a0 fun p6=>
  k5 p6 w) ⟨0,0,none⟩ w fun x7 w1=>
 gd (α:=Bool) (!x4) (fun k8=>
  ldB w1 (x7.add 10) fun x9=>
  k8 x9 w1) false w1 fun x10 w2=>
 pif (cond x4 true x10) (
  R (.bool false) w2) (
  jn (σ:=Bool×Unit) (fun k14=>
   cl Tryz.prog 64 [.pointer a0] w2 fun e18 w4=>∃x17:Int,e18=Ending.returned (.int .i64 x17)∧
   pif (x17==0) (
    nn a0 fun p20=>
    ldC w4 (p20.add 5) fun x21 x21n x21c=>
    lp (σ:=Bool×Int×Unit) (fun s25 w5 k24=>match s25 with
     | (v22,v23,_)=>
     pif (decide (v23<(x21n:Int))) (
      ixA x21 x21n v23 1 fun p28=>
      ldP w5 p28 fun x29=>
      gd (α:=Bool) v22 (fun k31=>
       cl Tryz.prog 75 [.pointer a0,.pointer x29] w5 fun e33 w6=>∃x32:Bool,e33=Ending.returned (.bool x32)∧
       k31 x32 w6) false w5 fun x34 w7=>
      k24 ((cond v22 x34 false),(IntKind.wrap .i64 (v23+1)),()) w7) (
      k14 (v22,()) w5)) (true,0,()) w4) (
    k14 (true,()) w4)) fun s15 w3=>match s15 with
  | (v13,_)=>
  lp (σ:=Bool×Unit) (fun s38 w8 k37=>match s38 with
   | (v36,_)=>
   gd (α:=Addr) v36 (fun k39=>
    nn a0 fun p40=>
    k39 p40 (World.drew w8)) ⟨0,0,none⟩ (World.drew w8) fun x41 _=>
   gd (α:=Int) v36 (fun k42=>
    ldI .i64 (World.drew w8) (x41.add 8) fun x43=>
    k42 x43 (World.drew w8)) 0 (World.drew w8) fun x44 _=>
   gd (α:=Addr) v36 (fun k45=>
    nn a0 fun p46=>
    k45 p46 (World.drew w8)) ⟨0,0,none⟩ (World.drew w8) fun x47 _=>
   gd (α:=(Option Addr×Nat×Nat)) v36 (fun k48=>
    ldC (World.drew w8) (x47.add 3) fun x49 x49n x49c=>
    k48 (x49,x49n,x49c) (World.drew w8)) (none,0,0) (World.drew w8) fun x50 _=>
   pif (cond v36 (decide (x44<(x50.2.1:Int))) false) (
    nn a0 fun p51=>
    ldC (World.drew (World.drew w8)) (p51.add 3) fun x52 x52n x52c=>
    nn a0 fun p53=>
    ldI .i64 (World.drew (World.drew w8)) (p53.add 8) fun x54=>
    ixA x52 x52n x54 1 fun p55=>
    ldI .i64 (World.drew (World.drew w8)) p55 fun x56=>
    nn a0 fun p58=>
    ldI .i64 (World.drew (World.drew w8)) (p58.add 8) fun x59=>
    nn a0 fun p60=>
    st (World.drew (World.drew w8)) ((p60.add 8).add 0) (.int .i64 (IntKind.wrap .i64 (x59+1))) fun w9=>
    cl Tryz.prog 76 [.pointer a0,.int .i64 (IntKind.wrap .i64 (0 - x56))] w9 fun e63 w10=>∃x62:Bool,e63=Ending.returned (.bool x62)∧
    k37 (x62,()) w10) (
    nn a0 fun p65=>
    st (World.drew w8) ((p65.add 9).add 0) (.bool v36) fun w11=>
    nn a0 fun p66=>
    st w11 ((p66.add 10).add 0) (.bool (!v36)) fun w12=>
    R (.bool v36) w12)) (v13,()) w3)
def An26:An:=.seq (.leaf) (.seq (.seq (.leaf) (.cond (.seq (.leaf) (.leaf)) (.leaf))) (.seq (.leaf) (.seq (.join [(3,.one (.bool))] (.seq (.leaf) (.cond (.seq (.leaf) (.blk (.loop [(3,.one (.bool)),(25,.one (.int .i64))] (.seq (.leaf) (.seq (.cond (.leaf) (.leaf)) (.seq (.blk (.seq (.leaf) (.leaf))) (.leaf))))))) (.leaf)))) (.seq (.blk (.loop [(3,.one (.bool))] (.seq (.seq (.draw [0,1,3,7,15,31,3,67,195,451,963,2047,4095]) (.cond (.leaf) (.leaf))) (.blk (.seq (.draw [0,1,3,7,0,16,48,112,255,511,1023]) (.seq (.leaf) (.leaf))))))) (.seq (.leaf) (.seq (.leaf) (.leaf)))))))
theorem V26_eq (a0:Option Addr) (w:World) (R:Value→World→Prop):evF Tryz.prog Tryz.f26 An26 [.pointer a0] w R=V26 a0 w R:=by kernel_rfl
theorem V26_calls (a0:Option Addr) (w:World) (R:Value→World→Prop) (h:V26 a0 w R):Calls Tryz.prog 26 #[.pointer a0] w fun e w'=>∃v,e=.returned v∧R v w':=
 calls_of_ev (args:=[.pointer a0]) Tryz.func26 (Nat.le_of_ble_eq_true (by kernel_rfl)) (by rw [V26_eq]; exact h)
theorem ok26:fnOk Tryz.prog 26=true:=by kernel_rfl
def V63 (a0:Option Addr) (a1:Int) (w:World) (R:Value→World→Prop):Prop:=
 nn a0 fun p3=>
 ldB w (p3.add 9) fun x4=>
 pif (!x4) (
  R (.int .i64 3) w) (
  gd (α:=Addr) (!(decide (a1<0))) (fun k7=>
   nn a0 fun p8=>
   k7 p8 w) ⟨0,0,none⟩ w fun x9 w1=>
  gd (α:=(Option Addr×Nat×Nat)) (!(decide (a1<0))) (fun k10=>
   ldC w1 (x9.add 6) fun x11 x11n x11c=>
   k10 (x11,x11n,x11c) w1) (none,0,0) w1 fun x12 w2=>
  pif (cond (decide (a1<0)) true (decide (a1≥(x12.2.1:Int)))) (
   R (.int .i64 2) w2) (
   nn a0 fun p15=>
   ldC w2 (p15.add 6) fun x16 x16n x16c=>
   ixA x16 x16n a1 1 fun p17=>
   ldP w2 p17 fun x18=>
   cl Tryz.prog 107 [.pointer a0,.pointer x18] w2 fun e21 w3=>∃x20:Bool,e21=Ending.returned (.bool x20)∧
   gd (α:=Bool) (!x20) (fun k22=>
    cl Tryz.prog 108 [.pointer a0,.pointer x18] w3 fun e24 w4=>∃x23:Bool,e24=Ending.returned (.bool x23)∧
    k22 x23 w4) false w3 fun x25 w5=>
   pif (cond x20 true x25) (
    R (.int .i64 160) w5) (
    nn x18 fun p28=>
    st w5 ((p28.add 4).add 0) (.bool true) fun w6=>
    nn a0 fun p29=>
    ldP (World.drew w6) (p29.add 1) fun x30=>
    nn x18 fun p31=>
    ldI .i64 (World.drew w6) (p31.add 0) fun x32=>
    cl Tryz.prog 109 [.pointer x30,.int .i64 x32] (World.drew w6) fun e34 w7=>∃x33:Int,e34=Ending.returned (.int .i64 x33)∧
    nn a0 fun p36=>
    ldC w7 (p36.add 6) fun x37 x37n x37c=>
    cl Tryz.prog 110 [.slice x37 x37n x37c,.int .i64 a1,.int .i64 (IntKind.wrap .i64 (a1+1))] w7 fun e39 w8=>∃(x38:Option Addr) (x38n x38c:Nat),e39=Ending.returned (.slice x38 x38n x38c)∧
    nn a0 fun p40=>
    st w8 ((p40.add 6).add 0) (.slice x38 x38n x38c) fun w9=>
    nn a0 fun p41=>
    ldV (World.drew w9) (p41.add 7) fun x42=>
    nn x18 fun p43=>
    ldC (World.drew w9) (p43.add 1) fun x44 x44n x44c=>
    nkA (x42)=true∧
    cl Tryz.prog 56 [.slice x44 x44n x44c] (World.drew w9) fun e46 w10=>∃(x45:Option Addr) (x45n x45c:Nat),e46=Ending.returned (.slice x45 x45n x45c)∧
    (
     ldV w10 (p41.add 7) fun x47=>
     ((x47:Value)=x42))∧
        clM Tryz.prog (x42) "depot/engine.note" [.agg #[.bool true, .slice x45 x45n x45c]] w10 fun e48 w11 => e48 = Ending.returned (.tuple #[]) ∧
    R (.int .i64 0) w11)))
def An63:An:=.seq (.leaf) (.seq (.blk (.seq (.leaf) (.cond (.seq (.leaf) (.leaf)) (.seq (.leaf) (.cond (.seq (.leaf) (.leaf)) (.leaf)))))) (.seq (.leaf) (.seq (.seq (.leaf) (.cond (.seq (.leaf) (.leaf)) (.leaf))) (.seq (.leaf) (.seq (.draw [0,1,3,7,0,16,48,112,255]) (.seq (.leaf) (.seq (.draw [0,1,3,7,0,16,48,112,240,496,15,1039,4095]) (.seq (.leaf) (.leaf)))))))))
theorem V63_eq (a0:Option Addr) (a1:Int) (w:World) (R:Value→World→Prop):evF Tryz.prog Tryz.f63 An63 [.pointer a0,.int .i64 a1] w R=V63 a0 a1 w R:=by kernel_rfl
theorem V63_calls (a0:Option Addr) (a1:Int) (w:World) (R:Value→World→Prop) (h:V63 a0 a1 w R):Calls Tryz.prog 63 #[.pointer a0,.int .i64 a1] w fun e w'=>∃v,e=.returned v∧R v w':=
 calls_of_ev (args:=[.pointer a0,.int .i64 a1]) Tryz.func63 (Nat.le_of_ble_eq_true (by kernel_rfl)) (by rw [V63_eq]; exact h)
theorem ok63:fnOk Tryz.prog 63=true:=by kernel_rfl
def V13 (a0:Option Addr) (w:World) (R:Value→World→Prop):Prop:=
 nn a0 fun p3=>
 ldB w (p3.add 10) fun x4=>
 pif (!x4) (
  R (.tuple #[.slice none 0 0,.int .i64 0,.int .i64 3]) w) (
  nn a0 fun p7=>
  st w ((p7.add 10).add 0) (.bool false) fun w1=>
  cl Tryz.prog 52 [.pointer a0] w1 fun e10 w2=>∃(x9:Option Addr) (x9n x9c:Nat),e10=Ending.returned (.slice x9 x9n x9c)∧
  nn a0 fun p11=>
  ldP (World.drew w2) (p11.add 1) fun x12=>
  nn a0 fun p13=>
  ldI .i64 (World.drew w2) (p13.add 12) fun x14=>
  cl Tryz.prog 53 [.pointer x12,.int .i64 x14] (World.drew w2) fun e17 w3=>∃(x15:Option Addr) (x15n x15c:Nat),∃x16:Bool,e17=Ending.returned (.tuple #[.slice x15 x15n x15c,.bool x16])∧
  cl Tryz.prog 54 [.slice x9 x9n x9c,.slice x15 x15n x15c] w3 fun e22 w4=>∃(x19:Option Addr) (x19n x19c:Nat),∃x20:Int,∃x21:Int,e22=Ending.returned (.tuple #[.slice x19 x19n x19c,.int .i64 x20,.int .i64 x21])∧
  pif ((x19n:Int)==0) (
   nn a0 fun p25=>
   st w4 ((p25.add 11).add 0) (.bool true) fun w5=>
   nn a0 fun p27=>
   ldV w5 (p27.add 7) fun x28=>
      clM Tryz.prog (x28) "depot/engine.note" [.agg #[.bool false, .slice none 0 0]] w5 fun e29 w6 => e29 = Ending.returned (.tuple #[]) ∧
   R (.tuple #[.slice none 0 0,.int .i64 (-1),.int .i64 0]) w6) (
   cl Tryz.prog 55 [.slice x9 x9n x9c,.slice x19 x19n x19c] w4 fun e34 w7=>∃(x32:Option Addr) (x32n x32c:Nat),∃x33:Int,e34=Ending.returned (.tuple #[.slice x32 x32n x32c,.int .i64 x33])∧
   nn a0 fun p36=>
   ldV w7 (p36.add 7) fun x37=>
      clM Tryz.prog (x37) "depot/engine.note" [.agg #[.bool false, .slice x32 x32n x32c]] w7 fun e38 w8 => e38 = Ending.returned (.tuple #[]) ∧
   nn a0 fun p40=>
   ldP w8 (p40.add 1) fun x41=>
   cl Tryz.prog 45 [.pointer x41,.slice x32 x32n x32c,.bool true] w8 fun e44 w9=>∃x42:Int,∃x43:Int,e44=Ending.returned (.tuple #[.int .i64 x42,.int .i64 x43])∧
   cl Tryz.prog 56 [.slice x32 x32n x32c] w9 fun e47 w10=>∃(x46:Option Addr) (x46n x46c:Nat),e47=Ending.returned (.slice x46 x46n x46c)∧
   alc w10 [.int .i64 x42,.slice x46 x46n x46c,.int .i64 0,.int .i64 0,.bool false] 113 fun b48 w11=>
   nn a0 fun p50=>
   ldC w11 (p50.add 6) fun x51 x51n x51c=>
   alc w11 [.pointer (some (⟨b48,0,none⟩:Addr))] 110 fun b52 w12=>
   ∃(x53:Option Addr) (x53n x53c:Nat),∃w13:World,(Builtin.append_ #[101,101] 101 #[.slice x51 x51n x51c,.slice (some (⟨b52,0,none⟩:Addr)) 1 1]).run Tryz.prog w12=.ok (.slice x53 x53n x53c) w13∧
   nn a0 fun p54=>
   st w13 ((p54.add 6).add 0) (.slice x53 x53n x53c) fun w14=>
   jn (σ:=Unit) (fun k55=>
    pif (decide ((x32n:Int)>1)) (
     ixA x32 x32n 0 1 fun p58=>
     ldI .i64 (World.drew w14) p58 fun x59=>
     (0:Int)≤1∧1≤(x32n:Int)∧
     cl Tryz.prog 57 [.slice (slA x32 x32c (Int.toNat 1) 1) (x32n - (Int.toNat 1)) (x32c - (Int.toNat 1)),.func (.func 58) #[.pointer a0] #[]] (World.drew w14) fun e61 w16=>∃x60:Int,e61=Ending.returned (.int .i64 x60)∧
     (
      ldI .i64 w16 p58 fun x62=>
      ((.int .i64 x62:Value)=.int .i64 x59))∧
     cl Tryz.prog 48 [.pointer a0,.pointer (some (⟨b48,0,none⟩:Addr)),.int .i64 x59,.int .i64 x60] w16 fun e63 w17=>e63=Ending.returned (.tuple #[])∧
     k55 (()) w17) (
     k55 (()) w14)) fun s56 w15=>match s56 with
   | (_)=>
   cl Tryz.prog 59 [.pointer a0,.int .i64 x20] w15 fun e65 w18=>e65=Ending.returned (.tuple #[])∧
   ixA x32 x32n 0 1 fun p67=>
   ldI .i64 w18 p67 fun x68=>
   cl Tryz.prog 60 [.pointer a0,.int .i64 x68,.pointer (some (⟨b48,0,none⟩:Addr))] w18 fun e69 w19=>e69=Ending.returned (.tuple #[])∧
   R (.tuple #[.slice x32 x32n x32c,.int .i64 x20,.int .i64 0]) w19))
def An13:An:=.seq (.leaf) (.seq (.seq (.leaf) (.cond (.seq (.leaf) (.leaf)) (.leaf))) (.seq (.leaf) (.seq (.leaf) (.seq (.draw [0,1,3,7,0,16,48,112,255,511,1023,1023,2047,8191]) (.seq (.leaf) (.seq (.seq (.leaf) (.cond (.seq (.leaf) (.seq (.leaf) (.seq (.leaf) (.leaf)))) (.leaf))) (.seq (.leaf) (.seq (.leaf) (.seq (.leaf) (.seq (.leaf) (.seq (.leaf) (.seq (.join [] (.seq (.leaf) (.cond (.draw [0,0,0,4,12,0,32,0,128,480,1023]) (.leaf)))) (.seq (.leaf) (.seq (.leaf) (.seq (.leaf) (.leaf))))))))))))))))
theorem V13_eq (a0:Option Addr) (w:World) (R:Value→World→Prop):evF Tryz.prog Tryz.f13 An13 [.pointer a0] w R=V13 a0 w R:=by kernel_rfl
theorem V13_calls (a0:Option Addr) (w:World) (R:Value→World→Prop) (h:V13 a0 w R):Calls Tryz.prog 13 #[.pointer a0] w fun e w'=>∃v,e=.returned v∧R v w':=
 calls_of_ev (args:=[.pointer a0]) Tryz.func13 (Nat.le_of_ble_eq_true (by kernel_rfl)) (by rw [V13_eq]; exact h)
theorem ok13:fnOk Tryz.prog 13=true:=by kernel_rfl
def V22 (a0:Option Addr) (w:World) (R:Value→World→Prop):Prop:=
 nn a0 fun p3=>
 ldB w (p3.add 11) fun x4=>
 R (.bool x4) w
def An22:An:=.seq (.leaf) (.seq (.leaf) (.leaf))
theorem V22_eq (a0:Option Addr) (w:World) (R:Value→World→Prop):evF Tryz.prog Tryz.f22 An22 [.pointer a0] w R=V22 a0 w R:=by kernel_rfl
theorem V22_calls (a0:Option Addr) (w:World) (R:Value→World→Prop) (h:V22 a0 w R):Calls Tryz.prog 22 #[.pointer a0] w fun e w'=>∃v,e=.returned v∧R v w':=
 calls_of_ev (args:=[.pointer a0]) Tryz.func22 (Nat.le_of_ble_eq_true (by kernel_rfl)) (by rw [V22_eq]; exact h)
theorem ok22:fnOk Tryz.prog 22=true:=by kernel_rfl
def V23 (a0:Option Addr) (w:World) (R:Value→World→Prop):Prop:=
 nn a0 fun p4=>
 ldC w (p4.add 6) fun x5 x5n x5c=>
 lp (σ:=(Option Addr×Nat×Nat)×Int×Unit) (fun s9 w1 k8=>match s9 with
  | ((v6,v6n,v6c),v7,_)=>
  pif (decide (v7<(x5n:Int))) (
   ixA x5 x5n v7 1 fun p12=>
   ldP w1 p12 fun x13=>
   nn x13 fun p15=>
   ldC w1 (p15.add 1) fun x16 x16n x16c=>
   cl Tryz.prog 56 [.slice x16 x16n x16c] w1 fun e18 w2=>∃(x17:Option Addr) (x17n x17c:Nat),e18=Ending.returned (.slice x17 x17n x17c)∧
   alc w2 [.slice x17 x17n x17c] 49 fun b19 w3=>
   ∃(x20:Option Addr) (x20n x20c:Nat),∃w4:World,(Builtin.append_ #[22,22] 22 #[.slice v6 v6n v6c,.slice (some (⟨b19,0,none⟩:Addr)) 1 1]).run Tryz.prog w3=.ok (.slice x20 x20n x20c) w4∧
   k8 ((x20,x20n,x20c),(IntKind.wrap .i64 (v7+1)),()) w4) (
   R (.slice v6 v6n v6c) w1)) ((none,0,0),0,()) w
def An23:An:=.seq (.leaf) (.seq (.leaf) (.seq (.seq (.leaf) (.blk (.loop [(3,.one (.slc)),(11,.one (.int .i64))] (.seq (.leaf) (.seq (.cond (.leaf) (.leaf)) (.seq (.blk (.seq (.leaf) (.leaf))) (.leaf))))))) (.seq (.leaf) (.leaf))))
theorem V23_eq (a0:Option Addr) (w:World) (R:Value→World→Prop):evF Tryz.prog Tryz.f23 An23 [.pointer a0] w R=V23 a0 w R:=by kernel_rfl
theorem V23_calls (a0:Option Addr) (w:World) (R:Value→World→Prop) (h:V23 a0 w R):Calls Tryz.prog 23 #[.pointer a0] w fun e w'=>∃v,e=.returned v∧R v w':=
 calls_of_ev (args:=[.pointer a0]) Tryz.func23 (Nat.le_of_ble_eq_true (by kernel_rfl)) (by rw [V23_eq]; exact h)
theorem ok23:fnOk Tryz.prog 23=true:=by kernel_rfl
def V24 (a0:Option Addr) (w:World) (R:Value→World→Prop):Prop:=
 nn a0 fun p2=>
 ldB (World.drew w) (p2.add 9) fun x3=>
 gd (α:=Addr) (!(!x3)) (fun k4=>
  nn a0 fun p5=>
  k4 p5 (World.drew w)) ⟨0,0,none⟩ (World.drew w) fun x6 _=>
 gd (α:=(Option Addr×Nat×Nat)) (!(!x3)) (fun k7=>
  ldC (World.drew w) (x6.add 3) fun x8 x8n x8c=>
  k7 (x8,x8n,x8c) (World.drew w)) (none,0,0) (World.drew w) fun x9 _=>
 gd (α:=Addr) (!(!x3)) (fun k10=>
  nn a0 fun p11=>
  k10 p11 (World.drew w)) ⟨0,0,none⟩ (World.drew w) fun x12 _=>
 gd (α:=Int) (!(!x3)) (fun k13=>
  ldI .i64 (World.drew w) (x12.add 0) fun x14=>
  k13 x14 (World.drew w)) 0 (World.drew w) fun x15 _=>
 pif (cond (!x3) true (decide ((x9.2.1:Int)<x15))) (
  R (.tuple #[.slice none 0 0,.bool false]) (World.drew w)) (
  nn a0 fun p18=>
  ldI .i64 (World.drew w) (p18.add 0) fun x19=>
  ∃(x20:Option Addr) (x20n x20c:Nat),∃w1:World,(Instr.makeSlice 65 (.int .i64 x19) (.int .i64 x19)).run Tryz.prog (World.drew w)=.ok (.slice x20 x20n x20c) w1∧
  lp (σ:=Int×Unit) (fun s24 w2 k23=>match s24 with
   | (v22,_)=>
   pif (decide (v22<(x20n:Int))) (
    nn a0 fun p28=>
    ldP w2 (p28.add 2) fun x29=>
    cl Tryz.prog 72 [.pointer x29,.int .i64 (IntKind.wrap .i64 (v22+1))] w2 fun e31 w3=>∃x30:Int,e31=Ending.returned (.int .i8 x30)∧
    ixA x20 x20n v22 1 fun p32=>
    st w3 (p32.add 0) (.bool (decide (x30>0))) fun w4=>
    k23 ((IntKind.wrap .i64 (v22+1)),()) w4) (
    R (.tuple #[.slice x20 x20n x20c,.bool true]) w2)) (0,()) w1)
def An24:An:=.seq (.leaf) (.seq (.seq (.draw [0,1,3,7,15,31,63,127,255,511,1023,63,2111,6207,14399,32767,65535]) (.cond (.seq (.leaf) (.leaf)) (.leaf))) (.seq (.leaf) (.seq (.seq (.leaf) (.blk (.loop [(30,.one (.int .i64))] (.seq (.leaf) (.seq (.cond (.leaf) (.leaf)) (.seq (.blk (.seq (.leaf) (.leaf))) (.leaf))))))) (.seq (.leaf) (.leaf)))))
theorem V24_eq (a0:Option Addr) (w:World) (R:Value→World→Prop):evF Tryz.prog Tryz.f24 An24 [.pointer a0] w R=V24 a0 w R:=by kernel_rfl
theorem V24_calls (a0:Option Addr) (w:World) (R:Value→World→Prop) (h:V24 a0 w R):Calls Tryz.prog 24 #[.pointer a0] w fun e w'=>∃v,e=.returned v∧R v w':=
 calls_of_ev (args:=[.pointer a0]) Tryz.func24 (Nat.le_of_ble_eq_true (by kernel_rfl)) (by rw [V24_eq]; exact h)
theorem ok24:fnOk Tryz.prog 24=true:=by kernel_rfl
def V48 (a0:Option Addr) (a1:Option Addr) (a2:Int) (a3:Int) (w:World) (R:Value→World→Prop):Prop:=
 nn a1 fun p2=>
 st w ((p2.add 2).add 0) (.int .i64 a2) fun w1=>
 st w1 ((p2.add 2).add 1) (.int .i64 a3) fun w2=>
 nn a1 fun p4=>
 ldI .i64 w2 ((p4.add 2).add 0) fun x5=>
 ldI .i64 w2 ((p4.add 2).add 1) fun x6=>
 lp (σ:=Int×Unit) (fun s9 w3 k8=>match s9 with
  | (v7,_)=>
  pif (decide (v7<2)) (
   (0:Int)≤v7∧v7<((2:Nat):Int)∧∃x12:Int,([.int .i64 x5,.int .i64 x6]:List Value)[(Int.toNat v7)]?=some (.int .i64 x12)∧
   nn a0 fun p13=>
   ldC (World.drew w3) (p13.add 4) fun x14 x14n x14c=>
   nn a0 fun p15=>
   ldC (World.drew w3) (p15.add 4) fun x16 x16n x16c=>
   (
    cl Tryz.prog 94 [.int .i64 x12] (World.drew w3) fun e18 w4=>∃x17:Int,e18=Ending.returned (.int .i64 x17)∧
    (
     ldC w4 (p15.add 4) fun x19 x19n x19c=>
     ((.slice x19 x19n x19c:Value)=.slice x16 x16n x16c))∧
    (
     ldC w4 (p13.add 4) fun x20 x20n x20c=>
     ((.slice x20 x20n x20c:Value)=.slice x14 x14n x14c))∧
    (
     cl Tryz.prog 94 [.int .i64 x12] w4 fun e22 w5=>∃x21:Int,e22=Ending.returned (.int .i64 x21)∧
     (
      ldC w5 (p15.add 4) fun x23 x23n x23c=>
      ((.slice x23 x23n x23c:Value)=.slice x16 x16n x16c))∧
     (
      ldC w5 (p13.add 4) fun x24 x24n x24c=>
      ((.slice x24 x24n x24c:Value)=.slice x14 x14n x14c))∧
     ixA x16 x16n x21 1 fun p25=>
     ldC w5 p25 fun x26 x26n x26c=>
     alc w5 [.pointer a1] 110 fun b27 w6=>
     (
      ldC w6 p25 fun x28 x28n x28c=>
      ((.slice x28 x28n x28c:Value)=.slice x26 x26n x26c))∧
     (
      ldC w6 (p15.add 4) fun x29 x29n x29c=>
      ((.slice x29 x29n x29c:Value)=.slice x16 x16n x16c))∧
     (
      ldC w6 (p13.add 4) fun x30 x30n x30c=>
      ((.slice x30 x30n x30c:Value)=.slice x14 x14n x14c))∧
     ∃(x31:Option Addr) (x31n x31c:Nat),∃w7:World,(Builtin.append_ #[101,101] 101 #[.slice x26 x26n x26c,.slice (some (⟨b27,0,none⟩:Addr)) 1 1]).run Tryz.prog w6=.ok (.slice x31 x31n x31c) w7∧
     (
      ldC w7 (p13.add 4) fun x32 x32n x32c=>
      ((.slice x32 x32n x32c:Value)=.slice x14 x14n x14c))∧
     ixA x14 x14n x17 1 fun p33=>
     st w7 (p33.add 0) (.slice x31 x31n x31c) fun w8=>
     k8 ((IntKind.wrap .i64 (v7+1)),()) w8)∧
    (
     alc w4 [.pointer a1] 110 fun b35 w9=>
     (
      ldC w9 (p15.add 4) fun x36 x36n x36c=>
      ((.slice x36 x36n x36c:Value)=.slice x16 x16n x16c))∧
     (
      ldC w9 (p13.add 4) fun x37 x37n x37c=>
      ((.slice x37 x37n x37c:Value)=.slice x14 x14n x14c))∧
     cl Tryz.prog 94 [.int .i64 x12] w9 fun e39 w10=>∃x38:Int,e39=Ending.returned (.int .i64 x38)∧
     (
      ldC w10 (p15.add 4) fun x40 x40n x40c=>
      ((.slice x40 x40n x40c:Value)=.slice x16 x16n x16c))∧
     (
      ldC w10 (p13.add 4) fun x41 x41n x41c=>
      ((.slice x41 x41n x41c:Value)=.slice x14 x14n x14c))∧
     ixA x16 x16n x38 1 fun p42=>
     ldC w10 p42 fun x43 x43n x43c=>
     ∃(x44:Option Addr) (x44n x44c:Nat),∃w11:World,(Builtin.append_ #[101,101] 101 #[.slice x43 x43n x43c,.slice (some (⟨b35,0,none⟩:Addr)) 1 1]).run Tryz.prog w10=.ok (.slice x44 x44n x44c) w11∧
     (
      ldC w11 (p13.add 4) fun x45 x45n x45c=>
      ((.slice x45 x45n x45c:Value)=.slice x14 x14n x14c))∧
     ixA x14 x14n x17 1 fun p46=>
     st w11 (p46.add 0) (.slice x44 x44n x44c) fun w12=>
     k8 ((IntKind.wrap .i64 (v7+1)),()) w12))∧
   (
    alc (World.drew w3) [.pointer a1] 110 fun b48 w13=>
    (
     ldC w13 (p15.add 4) fun x49 x49n x49c=>
     ((.slice x49 x49n x49c:Value)=.slice x16 x16n x16c))∧
    (
     ldC w13 (p13.add 4) fun x50 x50n x50c=>
     ((.slice x50 x50n x50c:Value)=.slice x14 x14n x14c))∧
    cl Tryz.prog 94 [.int .i64 x12] w13 fun e52 w14=>∃x51:Int,e52=Ending.returned (.int .i64 x51)∧
    (
     ldC w14 (p15.add 4) fun x53 x53n x53c=>
     ((.slice x53 x53n x53c:Value)=.slice x16 x16n x16c))∧
    (
     ldC w14 (p13.add 4) fun x54 x54n x54c=>
     ((.slice x54 x54n x54c:Value)=.slice x14 x14n x14c))∧
    cl Tryz.prog 94 [.int .i64 x12] w14 fun e56 w15=>∃x55:Int,e56=Ending.returned (.int .i64 x55)∧
    (
     ldC w15 (p15.add 4) fun x57 x57n x57c=>
     ((.slice x57 x57n x57c:Value)=.slice x16 x16n x16c))∧
    (
     ldC w15 (p13.add 4) fun x58 x58n x58c=>
     ((.slice x58 x58n x58c:Value)=.slice x14 x14n x14c))∧
    ixA x16 x16n x55 1 fun p59=>
    ldC w15 p59 fun x60 x60n x60c=>
    ∃(x61:Option Addr) (x61n x61c:Nat),∃w16:World,(Builtin.append_ #[101,101] 101 #[.slice x60 x60n x60c,.slice (some (⟨b48,0,none⟩:Addr)) 1 1]).run Tryz.prog w15=.ok (.slice x61 x61n x61c) w16∧
    (
     ldC w16 (p13.add 4) fun x62 x62n x62c=>
     ((.slice x62 x62n x62c:Value)=.slice x14 x14n x14c))∧
    ixA x14 x14n x51 1 fun p63=>
    st w16 (p63.add 0) (.slice x61 x61n x61c) fun w17=>
    k8 ((IntKind.wrap .i64 (v7+1)),()) w17)) (
   R (.tuple #[]) w3)) (0,()) w2
def An48:An:=.seq (.leaf) (.seq (.leaf) (.blk (.loop [(20,.one (.int .i64))] (.seq (.leaf) (.seq (.cond (.leaf) (.leaf)) (.seq (.blk (.seq (.leaf) (.draw [0,1,3,7,0,16,0,64,192,448,0,1072,4080,8176,0,16384,65520,131071,262143]))) (.leaf)))))))
theorem V48_eq (a0:Option Addr) (a1:Option Addr) (a2:Int) (a3:Int) (w:World) (R:Value→World→Prop):evF Tryz.prog Tryz.f48 An48 [.pointer a0,.pointer a1,.int .i64 a2,.int .i64 a3] w R=V48 a0 a1 a2 a3 w R:=by kernel_rfl
theorem V48_calls (a0:Option Addr) (a1:Option Addr) (a2:Int) (a3:Int) (w:World) (R:Value→World→Prop) (h:V48 a0 a1 a2 a3 w R):Calls Tryz.prog 48 #[.pointer a0,.pointer a1,.int .i64 a2,.int .i64 a3] w fun e w'=>∃v,e=.returned v∧R v w':=
 calls_of_ev (args:=[.pointer a0,.pointer a1,.int .i64 a2,.int .i64 a3]) Tryz.func48 (Nat.le_of_ble_eq_true (by kernel_rfl)) (by rw [V48_eq]; exact h)
theorem ok48:fnOk Tryz.prog 48=true:=by kernel_rfl
def V64 (a0:Option Addr) (w:World) (R:Value→World→Prop):Prop:=
 nn a0 fun p3=>
 ldP w (p3.add 2) fun x4=>
 cl Tryz.prog 111 [.pointer x4] w fun e6 w1=>∃x5:Int,e6=Ending.returned (.int .i64 x5)∧
 R (.int .i64 x5) w1
def An64:An:=.seq (.leaf) (.seq (.leaf) (.leaf))
theorem V64_eq (a0:Option Addr) (w:World) (R:Value→World→Prop):evF Tryz.prog Tryz.f64 An64 [.pointer a0] w R=V64 a0 w R:=by kernel_rfl
theorem V64_calls (a0:Option Addr) (w:World) (R:Value→World→Prop) (h:V64 a0 w R):Calls Tryz.prog 64 #[.pointer a0] w fun e w'=>∃v,e=.returned v∧R v w':=
 calls_of_ev (args:=[.pointer a0]) Tryz.func64 (Nat.le_of_ble_eq_true (by kernel_rfl)) (by rw [V64_eq]; exact h)
theorem ok64:fnOk Tryz.prog 64=true:=by kernel_rfl
def V75 (a0:Option Addr) (a1:Option Addr) (w:World) (R:Value→World→Prop):Prop:=
 nn a1 fun p3=>
 ldC w (p3.add 1) fun x4 x4n x4c=>
 lp (σ:=Int×Unit) (fun s7 w1 k6=>match s7 with
  | (v5,_)=>
  pif (decide (v5<(x4n:Int))) (
   ixA x4 x4n v5 1 fun p10=>
   ldI .i64 w1 p10 fun x11=>
   nn a0 fun p13=>
   ldP w1 (p13.add 2) fun x14=>
   cl Tryz.prog 72 [.pointer x14,.int .i64 x11] w1 fun e16 w2=>∃x15:Int,e16=Ending.returned (.int .i8 x15)∧
   pif (x15==1) (
    R (.bool true) w2) (
    pif (x15==0) (
     cl Tryz.prog 60 [.pointer a0,.int .i64 x11,.pointer a1] w2 fun e21 w3=>e21=Ending.returned (.tuple #[])∧
     R (.bool true) w3) (
     k6 ((IntKind.wrap .i64 (v5+1)),()) w2))) (
   nn a1 fun p25=>
   ldI .i64 w1 (p25.add 0) fun x26=>
   nn a0 fun p27=>
   st w1 ((p27.add 12).add 0) (.int .i64 x26) fun w4=>
   R (.bool false) w4)) (0,()) w
def An75:An:=.seq (.leaf) (.seq (.seq (.leaf) (.blk (.loop [(12,.one (.int .i64))] (.seq (.leaf) (.seq (.cond (.leaf) (.leaf)) (.seq (.blk (.seq (.leaf) (.seq (.leaf) (.blk (.seq (.leaf) (.cond (.seq (.leaf) (.leaf)) (.seq (.leaf) (.cond (.seq (.leaf) (.seq (.leaf) (.leaf))) (.leaf))))))))) (.leaf))))))) (.seq (.leaf) (.seq (.leaf) (.leaf))))
theorem V75_eq (a0:Option Addr) (a1:Option Addr) (w:World) (R:Value→World→Prop):evF Tryz.prog Tryz.f75 An75 [.pointer a0,.pointer a1] w R=V75 a0 a1 w R:=by kernel_rfl
theorem V75_calls (a0:Option Addr) (a1:Option Addr) (w:World) (R:Value→World→Prop) (h:V75 a0 a1 w R):Calls Tryz.prog 75 #[.pointer a0,.pointer a1] w fun e w'=>∃v,e=.returned v∧R v w':=
 calls_of_ev (args:=[.pointer a0,.pointer a1]) Tryz.func75 (Nat.le_of_ble_eq_true (by kernel_rfl)) (by rw [V75_eq]; exact h)
theorem ok75:fnOk Tryz.prog 75=true:=by kernel_rfl
def V76 (a0:Option Addr) (a1:Int) (w:World) (R:Value→World→Prop):Prop:=
 cl Tryz.prog 94 [.int .i64 a1] w fun e4 w1=>∃x3:Int,e4=Ending.returned (.int .i64 x3)∧
 nn a0 fun p6=>
 ldC w1 (p6.add 4) fun x7 x7n x7c=>
 ixA x7 x7n x3 1 fun p8=>
 ldC w1 p8 fun x9 x9n x9c=>
 nn a0 fun p11=>
 ldC w1 (p11.add 4) fun x12 x12n x12c=>
 ixA x12 x12n x3 1 fun p13=>
 st w1 (p13.add 0) (.slice none 0 0) fun w2=>
 lp (σ:=Bool×(Option Addr×Nat×Nat)×Int×Unit) (fun s21 w3 k20=>match s21 with
  | (v17,(v18,v18n,v18c),v19,_)=>
  pif (decide (v19<(x9n:Int))) (
   jn (σ:=Bool×(Option Addr×Nat×Nat)×Unit) (fun k25=>
    ixA x9 x9n v19 1 fun p28=>
    ldP w3 p28 fun x29=>
    nn x29 fun p31=>
    ldB w3 (p31.add 4) fun x32=>
    gd (α:=Bool) ((!x32)&&v17) (fun k33=>
     cl Tryz.prog 117 [.pointer a0,.pointer x29,.int .i64 a1] w3 fun e35 w5=>∃x34:Bool,e35=Ending.returned (.bool x34)∧
     k33 x34 w5) false w3 fun x36 w6=>
    pif (cond x32 true (cond v17 x36 false)) (
     k25 (v17,(v18,v18n,v18c),()) w6) (
     alc w6 [.pointer x29] 110 fun b38 w7=>
     ∃(x39:Option Addr) (x39n x39c:Nat),∃w8:World,(Builtin.append_ #[101,101] 101 #[.slice v18 v18n v18c,.slice (some (⟨b38,0,none⟩:Addr)) 1 1]).run Tryz.prog w7=.ok (.slice x39 x39n x39c) w8∧
     cl Tryz.prog 118 [.pointer x29,.int .i64 a1] w8 fun e42 w9=>∃x41:Int,e42=Ending.returned (.int .i64 x41)∧
     pif (!v17) (
      k25 (v17,(x39,x39n,x39c),()) w9) (
      nn a0 fun p45=>
      ldP w9 (p45.add 2) fun x46=>
      cl Tryz.prog 72 [.pointer x46,.int .i64 x41] w9 fun e48 w10=>∃x47:Int,e48=Ending.returned (.int .i8 x47)∧
      pif (decide (x47<0)) (
       nn x29 fun p51=>
       ldI .i64 w10 (p51.add 0) fun x52=>
       nn a0 fun p53=>
       st w10 ((p53.add 12).add 0) (.int .i64 x52) fun w11=>
       k25 (false,(x39,x39n,x39c),()) w11) (
       nn a0 fun p55=>
       ldP w10 (p55.add 2) fun x56=>
       cl Tryz.prog 72 [.pointer x56,.int .i64 x41] w10 fun e58 w12=>∃x57:Int,e58=Ending.returned (.int .i8 x57)∧
       pif (x57==0) (
        cl Tryz.prog 60 [.pointer a0,.int .i64 x41,.pointer x29] w12 fun e60 w13=>e60=Ending.returned (.tuple #[])∧
        k25 (v17,(x39,x39n,x39c),()) w13) (
        k25 (v17,(x39,x39n,x39c),()) w12))))) fun s26 w4=>match s26 with
   | (v23,(v24,v24n,v24c),_)=>
   k20 (v23,(v24,v24n,v24c),(IntKind.wrap .i64 (v19+1)),()) w4) (
   nn a0 fun p62=>
   ldC (World.drew w3) (p62.add 4) fun x63 x63n x63c=>
   nn a0 fun p64=>
   ldC (World.drew w3) (p64.add 4) fun x65 x65n x65c=>
   ixA x65 x65n x3 1 fun p66=>
   ldC (World.drew w3) p66 fun x67 x67n x67c=>
   ∃(x68:Option Addr) (x68n x68c:Nat),∃w14:World,(Builtin.append_ #[101,101] 101 #[.slice v18 v18n v18c,.slice x67 x67n x67c]).run Tryz.prog (World.drew w3)=.ok (.slice x68 x68n x68c) w14∧
   (
    ldC w14 (p62.add 4) fun x69 x69n x69c=>
    ((.slice x69 x69n x69c:Value)=.slice x63 x63n x63c))∧
   ixA x63 x63n x3 1 fun p70=>
   st w14 (p70.add 0) (.slice x68 x68n x68c) fun w15=>
   R (.bool v17) w15)) (true,(none,0,0),0,()) w2
def An76:An:=.seq (.leaf) (.seq (.leaf) (.seq (.leaf) (.seq (.leaf) (.seq (.leaf) (.seq (.leaf) (.seq (.seq (.leaf) (.blk (.loop [(7,.one (.bool)),(8,.one (.slc)),(29,.one (.int .i64))] (.seq (.leaf) (.seq (.cond (.leaf) (.leaf)) (.seq (.join [(7,.one (.bool)),(8,.one (.slc))] (.blk (.seq (.leaf) (.seq (.seq (.leaf) (.cond (.leaf) (.leaf))) (.seq (.leaf) (.seq (.leaf) (.blk (.seq (.leaf) (.cond (.leaf) (.seq (.leaf) (.cond (.seq (.leaf) (.leaf)) (.seq (.leaf) (.cond (.leaf) (.leaf)))))))))))))) (.leaf))))))) (.seq (.draw [0,1,3,7,0,0,0,64,192,448,0,1984,4032,8160,16383,32767]) (.seq (.leaf) (.leaf)))))))))
theorem V76_eq (a0:Option Addr) (a1:Int) (w:World) (R:Value→World→Prop):evF Tryz.prog Tryz.f76 An76 [.pointer a0,.int .i64 a1] w R=V76 a0 a1 w R:=by kernel_rfl
theorem V76_calls (a0:Option Addr) (a1:Int) (w:World) (R:Value→World→Prop) (h:V76 a0 a1 w R):Calls Tryz.prog 76 #[.pointer a0,.int .i64 a1] w fun e w'=>∃v,e=.returned v∧R v w':=
 calls_of_ev (args:=[.pointer a0,.int .i64 a1]) Tryz.func76 (Nat.le_of_ble_eq_true (by kernel_rfl)) (by rw [V76_eq]; exact h)
theorem ok76:fnOk Tryz.prog 76=true:=by kernel_rfl
def V107 (a0:Option Addr) (a1:Option Addr) (w:World) (R:Value→World→Prop):Prop:=
 alc w [.pointer a1] 110 fun b2 w1=>
 cl Tryz.prog 52 [.pointer a0] w1 fun e5 w2=>∃(x4:Option Addr) (x4n x4c:Nat),e5=Ending.returned (.slice x4 x4n x4c)∧
 cl Tryz.prog 140 [.slice x4 x4n x4c,.func (.func 141) #[] #[.pointer (some (⟨b2,0,none⟩:Addr))]] w2 fun e7 w3=>∃x6:Bool,e7=Ending.returned (.bool x6)∧
 R (.bool x6) w3
def An107:An:=.seq (.leaf) (.seq (.leaf) (.leaf))
theorem V107_eq (a0:Option Addr) (a1:Option Addr) (w:World) (R:Value→World→Prop):evF Tryz.prog Tryz.f107 An107 [.pointer a0,.pointer a1] w R=V107 a0 a1 w R:=by kernel_rfl
theorem V107_calls (a0:Option Addr) (a1:Option Addr) (w:World) (R:Value→World→Prop) (h:V107 a0 a1 w R):Calls Tryz.prog 107 #[.pointer a0,.pointer a1] w fun e w'=>∃v,e=.returned v∧R v w':=
 calls_of_ev (args:=[.pointer a0,.pointer a1]) Tryz.func107 (Nat.le_of_ble_eq_true (by kernel_rfl)) (by rw [V107_eq]; exact h)
theorem ok107:fnOk Tryz.prog 107=true:=by kernel_rfl
def V108 (a0:Option Addr) (a1:Option Addr) (w:World) (R:Value→World→Prop):Prop:=
 nn a1 fun p4=>
 ldC w (p4.add 1) fun x5 x5n x5c=>
 lp (σ:=Int×Int×Unit) (fun s9 w1 k8=>match s9 with
  | (v6,v7,_)=>
  pif (decide (v7<(x5n:Int))) (
   jn (σ:=Int×Unit) (fun k12=>
    ixA x5 x5n v7 1 fun p15=>
    ldI .i64 w1 p15 fun x16=>
    nn a0 fun p17=>
    ldP (World.drew w1) (p17.add 2) fun x18=>
    cl Tryz.prog 103 [.int .i64 x16] (World.drew w1) fun e20 w3=>∃x19:Int,e20=Ending.returned (.int .i64 x19)∧
    (
     ldP w3 (p17.add 2) fun x21=>
     ((.pointer x21:Value)=.pointer x18))∧
    cl Tryz.prog 102 [.pointer x18,.int .i64 x19] w3 fun e23 w4=>∃x22:Int,e23=Ending.returned (.int .i64 x22)∧
    pif (x22 != 0) (
     R (.bool false) w4) (
     nn a0 fun p26=>
     ldP w4 (p26.add 2) fun x27=>
     cl Tryz.prog 72 [.pointer x27,.int .i64 x16] w4 fun e29 w5=>∃x28:Int,e29=Ending.returned (.int .i8 x28)∧
     pif (decide (x28>0)) (
      k12 ((IntKind.wrap .i64 (v6+1)),()) w5) (
      k12 (v6,()) w5))) fun s13 w2=>match s13 with
   | (v11,_)=>
   k8 (v11,(IntKind.wrap .i64 (v7+1)),()) w2) (
   R (.bool (v6==1)) w1)) (0,0,()) w
def An108:An:=.seq (.leaf) (.seq (.leaf) (.seq (.seq (.leaf) (.blk (.loop [(5,.one (.int .i64)),(13,.one (.int .i64))] (.seq (.leaf) (.seq (.cond (.leaf) (.leaf)) (.seq (.join [(5,.one (.int .i64))] (.blk (.seq (.leaf) (.seq (.seq (.draw [0,1,3,7,0,16,63,127]) (.cond (.seq (.leaf) (.leaf)) (.leaf))) (.seq (.leaf) (.cond (.leaf) (.leaf))))))) (.leaf))))))) (.seq (.leaf) (.leaf))))
theorem V108_eq (a0:Option Addr) (a1:Option Addr) (w:World) (R:Value→World→Prop):evF Tryz.prog Tryz.f108 An108 [.pointer a0,.pointer a1] w R=V108 a0 a1 w R:=by kernel_rfl
theorem V108_calls (a0:Option Addr) (a1:Option Addr) (w:World) (R:Value→World→Prop) (h:V108 a0 a1 w R):Calls Tryz.prog 108 #[.pointer a0,.pointer a1] w fun e w'=>∃v,e=.returned v∧R v w':=
 calls_of_ev (args:=[.pointer a0,.pointer a1]) Tryz.func108 (Nat.le_of_ble_eq_true (by kernel_rfl)) (by rw [V108_eq]; exact h)
theorem ok108:fnOk Tryz.prog 108=true:=by kernel_rfl
def V52 (a0:Option Addr) (w:World) (R:Value→World→Prop):Prop:=
 nn a0 fun p4=>
 ldC w (p4.add 3) fun x5 x5n x5c=>
 lp (σ:=(Option Addr×Nat×Nat)×Int×Unit) (fun s9 w1 k8=>match s9 with
  | ((v6,v6n,v6c),v7,_)=>
  pif (decide (v7<(x5n:Int))) (
   ixA x5 x5n v7 1 fun p12=>
   ldI .i64 w1 p12 fun x13=>
   nn a0 fun p15=>
   ldP w1 (p15.add 1) fun x16=>
   cl Tryz.prog 95 [.pointer a0,.int .i64 x13,.func (.func 53) #[.pointer x16] #[]] w1 fun e20 w2=>∃x17:Int,∃x18:Int,∃(x19:Option Addr) (x19n x19c:Nat),e20=Ending.returned (.agg #[.int .i64 x17,.int .i64 x18,.slice x19 x19n x19c])∧
   alc w2 [.int .i64 x17,.int .i64 x18,.slice x19 x19n x19c] 164 fun b21 w3=>
   ∃(x22:Option Addr) (x22n x22c:Nat),∃w4:World,(Builtin.append_ #[79,79] 79 #[.slice v6 v6n v6c,.slice (some (⟨b21,0,none⟩:Addr)) 1 1]).run Tryz.prog w3=.ok (.slice x22 x22n x22c) w4∧
   k8 ((x22,x22n,x22c),(IntKind.wrap .i64 (v7+1)),()) w4) (
   R (.slice v6 v6n v6c) w1)) ((none,0,0),0,()) w
def An52:An:=.seq (.leaf) (.seq (.leaf) (.seq (.seq (.leaf) (.blk (.loop [(3,.one (.slc)),(11,.one (.int .i64))] (.seq (.leaf) (.seq (.cond (.leaf) (.leaf)) (.seq (.blk (.seq (.leaf) (.leaf))) (.leaf))))))) (.seq (.leaf) (.leaf))))
theorem V52_eq (a0:Option Addr) (w:World) (R:Value→World→Prop):evF Tryz.prog Tryz.f52 An52 [.pointer a0] w R=V52 a0 w R:=by kernel_rfl
theorem V52_calls (a0:Option Addr) (w:World) (R:Value→World→Prop) (h:V52 a0 w R):Calls Tryz.prog 52 #[.pointer a0] w fun e w'=>∃v,e=.returned v∧R v w':=
 calls_of_ev (args:=[.pointer a0]) Tryz.func52 (Nat.le_of_ble_eq_true (by kernel_rfl)) (by rw [V52_eq]; exact h)
theorem ok52:fnOk Tryz.prog 52=true:=by kernel_rfl
def V58 (a0:Option Addr) (a1:Int) (a2:Int) (w:World) (R:Value→World→Prop):Prop:=
 nn a0 fun p2=>
 ldP (World.drew w) (p2.add 2) fun x3=>
 nn a0 fun p4=>
 ldP (World.drew w) (p4.add 2) fun x5=>
 cl Tryz.prog 103 [.int .i64 a1] (World.drew w) fun e7 w1=>∃x6:Int,e7=Ending.returned (.int .i64 x6)∧
 (
  ldP w1 (p4.add 2) fun x8=>
  ((.pointer x8:Value)=.pointer x5))∧
 (
  ldP w1 (p2.add 2) fun x9=>
  ((.pointer x9:Value)=.pointer x3))∧
 cl Tryz.prog 102 [.pointer x3,.int .i64 x6] w1 fun e11 w2=>∃x10:Int,e11=Ending.returned (.int .i64 x10)∧
 (
  ldP w2 (p4.add 2) fun x12=>
  ((.pointer x12:Value)=.pointer x5))∧
 cl Tryz.prog 103 [.int .i64 a2] w2 fun e14 w3=>∃x13:Int,e14=Ending.returned (.int .i64 x13)∧
 (
  ldP w3 (p4.add 2) fun x15=>
  ((.pointer x15:Value)=.pointer x5))∧
 cl Tryz.prog 102 [.pointer x5,.int .i64 x13] w3 fun e17 w4=>∃x16:Int,e17=Ending.returned (.int .i64 x16)∧
 R (.int .i64 (IntKind.wrap .i64 (x10 - x16))) w4
def An58:An:=.seq (.leaf) (.seq (.draw [0,1,3,7,0,16,63,0,128,384,896,0,2175,8191,16383,32767]) (.leaf))
theorem V58_eq (a0:Option Addr) (a1:Int) (a2:Int) (w:World) (R:Value→World→Prop):evF Tryz.prog Tryz.f58 An58 [.pointer a0,.int .i64 a1,.int .i64 a2] w R=V58 a0 a1 a2 w R:=by kernel_rfl
theorem V58_calls (a0:Option Addr) (a1:Int) (a2:Int) (w:World) (R:Value→World→Prop) (h:V58 a0 a1 a2 w R):Calls Tryz.prog 58 #[.pointer a0,.int .i64 a1,.int .i64 a2] w fun e w'=>∃v,e=.returned v∧R v w':=
 calls_of_ev (args:=[.pointer a0,.int .i64 a1,.int .i64 a2]) Tryz.func58 (Nat.le_of_ble_eq_true (by kernel_rfl)) (by rw [V58_eq]; exact h)
theorem ok58:fnOk Tryz.prog 58=true:=by kernel_rfl
def V59 (a0:Option Addr) (a1:Int) (w:World) (R:Value→World→Prop):Prop:=
 nn a0 fun p2=>
 ldP w (p2.add 2) fun x3=>
 cl Tryz.prog 104 [.pointer x3,.int .i64 a1] w fun e6 w1=>∃(x4:Option Addr) (x4n x4c:Nat),∃x5:Int,e6=Ending.returned (.tuple #[.slice x4 x4n x4c,.int .i64 x5])∧
 nn a0 fun p7=>
 ldC (World.drew w1) (p7.add 3) fun x8 x8n x8c=>
 nn a0 fun p9=>
 ldC (World.drew w1) (p9.add 3) fun x10 x10n x10c=>
 (0:Int)≤(IntKind.wrap .i64 ((x10n:Int) - (x4n:Int)))∧(IntKind.wrap .i64 ((x10n:Int) - (x4n:Int)))≤(x8c:Int)∧
 nn a0 fun p11=>
 st (World.drew w1) ((p11.add 3).add 0) (.slice (slA x8 x8c 0 1) ((Int.toNat (IntKind.wrap .i64 ((x10n:Int) - (x4n:Int)))) - 0) (x8c - 0)) fun w2=>
 nn a0 fun p12=>
 ldI .i64 (World.drew w2) (p12.add 8) fun x13=>
 nn a0 fun p14=>
 ldC (World.drew w2) (p14.add 3) fun x15 x15n x15c=>
 nn a0 fun p16=>
 st (World.drew w2) ((p16.add 8).add 0) (.int .i64 (if (x15n:Int)<x13 then (x15n:Int) else x13)) fun w3=>
 R (.tuple #[]) w3
def An59:An:=.seq (.leaf) (.seq (.draw [0,0,2,6,14,0,32,96,224,480,0,1024,4064,8190,16383,32767,65535]) (.draw [0,0,2,6,14,0,32,96,224,480,1022,2047,4095,8191]))
theorem V59_eq (a0:Option Addr) (a1:Int) (w:World) (R:Value→World→Prop):evF Tryz.prog Tryz.f59 An59 [.pointer a0,.int .i64 a1] w R=V59 a0 a1 w R:=by kernel_rfl
theorem V59_calls (a0:Option Addr) (a1:Int) (w:World) (R:Value→World→Prop) (h:V59 a0 a1 w R):Calls Tryz.prog 59 #[.pointer a0,.int .i64 a1] w fun e w'=>∃v,e=.returned v∧R v w':=
 calls_of_ev (args:=[.pointer a0,.int .i64 a1]) Tryz.func59 (Nat.le_of_ble_eq_true (by kernel_rfl)) (by rw [V59_eq]; exact h)
theorem ok59:fnOk Tryz.prog 59=true:=by kernel_rfl
def V60 (a0:Option Addr) (a1:Int) (a2:Option Addr) (w:World) (R:Value→World→Prop):Prop:=
 nn a0 fun p1=>
 ldP (World.drew w) (p1.add 2) fun x2=>
 nn a2 fun p3=>
 ldI .i64 (World.drew w) (p3.add 0) fun x4=>
 cl Tryz.prog 105 [.pointer x2,.int .i64 a1,.int .i64 x4] (World.drew w) fun e6 w1=>∃x5:Int,e6=Ending.returned (.int .i64 x5)∧
 nn a0 fun p8=>
 ldC w1 (p8.add 3) fun x9 x9n x9c=>
 alc w1 [.int .i64 a1] 3 fun b10 w2=>
 ∃(x11:Option Addr) (x11n x11c:Nat),∃w3:World,(Builtin.append_ #[49,49] 49 #[.slice x9 x9n x9c,.slice (some (⟨b10,0,none⟩:Addr)) 1 1]).run Tryz.prog w2=.ok (.slice x11 x11n x11c) w3∧
 nn a0 fun p12=>
 st w3 ((p12.add 3).add 0) (.slice x11 x11n x11c) fun w4=>
 R (.tuple #[]) w4
def An60:An:=.seq (.draw [0,1,3,7,0,0,32,96,224,511]) (.leaf)
theorem V60_eq (a0:Option Addr) (a1:Int) (a2:Option Addr) (w:World) (R:Value→World→Prop):evF Tryz.prog Tryz.f60 An60 [.pointer a0,.int .i64 a1,.pointer a2] w R=V60 a0 a1 a2 w R:=by kernel_rfl
theorem V60_calls (a0:Option Addr) (a1:Int) (a2:Option Addr) (w:World) (R:Value→World→Prop) (h:V60 a0 a1 a2 w R):Calls Tryz.prog 60 #[.pointer a0,.int .i64 a1,.pointer a2] w fun e w'=>∃v,e=.returned v∧R v w':=
 calls_of_ev (args:=[.pointer a0,.int .i64 a1,.pointer a2]) Tryz.func60 (Nat.le_of_ble_eq_true (by kernel_rfl)) (by rw [V60_eq]; exact h)
theorem ok60:fnOk Tryz.prog 60=true:=by kernel_rfl
def V117 (a0:Option Addr) (a1:Option Addr) (a2:Int) (w:World) (R:Value→World→Prop):Prop:=
 cl Tryz.prog 118 [.pointer a1,.int .i64 a2] w fun e4 w1=>∃x3:Int,e4=Ending.returned (.int .i64 x3)∧
 nn a0 fun p6=>
 ldP w1 (p6.add 2) fun x7=>
 cl Tryz.prog 72 [.pointer x7,.int .i64 x3] w1 fun e9 w2=>∃x8:Int,e9=Ending.returned (.int .i8 x8)∧
 pif (decide (x8>0)) (
  R (.bool false) w2) (
  nn a1 fun p12=>
  ldC w2 (p12.add 1) fun x13 x13n x13c=>
  lp (σ:=Int×Unit) (fun s16 w3 k15=>match s16 with
   | (v14,_)=>
   pif (decide (v14<(x13n:Int))) (
    ixA x13 x13n v14 1 fun p19=>
    ldI .i64 w3 p19 fun x20=>
    gd (α:=Addr) (cond (x20 != x3) (x20 != a2) false) (fun k22=>
     nn a0 fun p23=>
     k22 p23 w3) ⟨0,0,none⟩ w3 fun x24 w4=>
    gd (α:=(Option Addr)) (cond (x20 != x3) (x20 != a2) false) (fun k25=>
     ldP w4 (x24.add 2) fun x26=>
     k25 x26 w4) none w4 fun x27 w5=>
    gd (α:=Int) (cond (x20 != x3) (x20 != a2) false) (fun k28=>
     cl Tryz.prog 72 [.pointer x27,.int .i64 x20] w5 fun e30 w6=>∃x29:Int,e30=Ending.returned (.int .i8 x29)∧
     k28 x29 w6) 0 w5 fun x31 w7=>
    pif (cond (cond (x20 != x3) (x20 != a2) false) (decide (x31≥0)) false) (
     nn a1 fun p33=>
     st w7 ((p33.add 2).add 0) (.int .i64 x3) fun w8=>
     st w8 ((p33.add 2).add 1) (.int .i64 x20) fun w9=>
     nn a0 fun p34=>
     ldC (World.drew w9) (p34.add 4) fun x35 x35n x35c=>
     nn a0 fun p36=>
     ldC (World.drew w9) (p36.add 4) fun x37 x37n x37c=>
     (
      cl Tryz.prog 94 [.int .i64 x20] (World.drew w9) fun e39 w10=>∃x38:Int,e39=Ending.returned (.int .i64 x38)∧
      (
       ldC w10 (p36.add 4) fun x40 x40n x40c=>
       ((.slice x40 x40n x40c:Value)=.slice x37 x37n x37c))∧
      (
       ldC w10 (p34.add 4) fun x41 x41n x41c=>
       ((.slice x41 x41n x41c:Value)=.slice x35 x35n x35c))∧
      (
       cl Tryz.prog 94 [.int .i64 x20] w10 fun e43 w11=>∃x42:Int,e43=Ending.returned (.int .i64 x42)∧
       (
        ldC w11 (p36.add 4) fun x44 x44n x44c=>
        ((.slice x44 x44n x44c:Value)=.slice x37 x37n x37c))∧
       (
        ldC w11 (p34.add 4) fun x45 x45n x45c=>
        ((.slice x45 x45n x45c:Value)=.slice x35 x35n x35c))∧
       ixA x37 x37n x42 1 fun p46=>
       ldC w11 p46 fun x47 x47n x47c=>
       alc w11 [.pointer a1] 110 fun b48 w12=>
       (
        ldC w12 p46 fun x49 x49n x49c=>
        ((.slice x49 x49n x49c:Value)=.slice x47 x47n x47c))∧
       (
        ldC w12 (p36.add 4) fun x50 x50n x50c=>
        ((.slice x50 x50n x50c:Value)=.slice x37 x37n x37c))∧
       (
        ldC w12 (p34.add 4) fun x51 x51n x51c=>
        ((.slice x51 x51n x51c:Value)=.slice x35 x35n x35c))∧
       ∃(x52:Option Addr) (x52n x52c:Nat),∃w13:World,(Builtin.append_ #[101,101] 101 #[.slice x47 x47n x47c,.slice (some (⟨b48,0,none⟩:Addr)) 1 1]).run Tryz.prog w12=.ok (.slice x52 x52n x52c) w13∧
       (
        ldC w13 (p34.add 4) fun x53 x53n x53c=>
        ((.slice x53 x53n x53c:Value)=.slice x35 x35n x35c))∧
       ixA x35 x35n x38 1 fun p54=>
       st w13 (p54.add 0) (.slice x52 x52n x52c) fun w14=>
       R (.bool true) w14)∧
      (
       alc w10 [.pointer a1] 110 fun b56 w15=>
       (
        ldC w15 (p36.add 4) fun x57 x57n x57c=>
        ((.slice x57 x57n x57c:Value)=.slice x37 x37n x37c))∧
       (
        ldC w15 (p34.add 4) fun x58 x58n x58c=>
        ((.slice x58 x58n x58c:Value)=.slice x35 x35n x35c))∧
       cl Tryz.prog 94 [.int .i64 x20] w15 fun e60 w16=>∃x59:Int,e60=Ending.returned (.int .i64 x59)∧
       (
        ldC w16 (p36.add 4) fun x61 x61n x61c=>
        ((.slice x61 x61n x61c:Value)=.slice x37 x37n x37c))∧
       (
        ldC w16 (p34.add 4) fun x62 x62n x62c=>
        ((.slice x62 x62n x62c:Value)=.slice x35 x35n x35c))∧
       ixA x37 x37n x59 1 fun p63=>
       ldC w16 p63 fun x64 x64n x64c=>
       ∃(x65:Option Addr) (x65n x65c:Nat),∃w17:World,(Builtin.append_ #[101,101] 101 #[.slice x64 x64n x64c,.slice (some (⟨b56,0,none⟩:Addr)) 1 1]).run Tryz.prog w16=.ok (.slice x65 x65n x65c) w17∧
       (
        ldC w17 (p34.add 4) fun x66 x66n x66c=>
        ((.slice x66 x66n x66c:Value)=.slice x35 x35n x35c))∧
       ixA x35 x35n x38 1 fun p67=>
       st w17 (p67.add 0) (.slice x65 x65n x65c) fun w18=>
       R (.bool true) w18))∧
     (
      alc (World.drew w9) [.pointer a1] 110 fun b69 w19=>
      (
       ldC w19 (p36.add 4) fun x70 x70n x70c=>
       ((.slice x70 x70n x70c:Value)=.slice x37 x37n x37c))∧
      (
       ldC w19 (p34.add 4) fun x71 x71n x71c=>
       ((.slice x71 x71n x71c:Value)=.slice x35 x35n x35c))∧
      cl Tryz.prog 94 [.int .i64 x20] w19 fun e73 w20=>∃x72:Int,e73=Ending.returned (.int .i64 x72)∧
      (
       ldC w20 (p36.add 4) fun x74 x74n x74c=>
       ((.slice x74 x74n x74c:Value)=.slice x37 x37n x37c))∧
      (
       ldC w20 (p34.add 4) fun x75 x75n x75c=>
       ((.slice x75 x75n x75c:Value)=.slice x35 x35n x35c))∧
      cl Tryz.prog 94 [.int .i64 x20] w20 fun e77 w21=>∃x76:Int,e77=Ending.returned (.int .i64 x76)∧
      (
       ldC w21 (p36.add 4) fun x78 x78n x78c=>
       ((.slice x78 x78n x78c:Value)=.slice x37 x37n x37c))∧
      (
       ldC w21 (p34.add 4) fun x79 x79n x79c=>
       ((.slice x79 x79n x79c:Value)=.slice x35 x35n x35c))∧
      ixA x37 x37n x76 1 fun p80=>
      ldC w21 p80 fun x81 x81n x81c=>
      ∃(x82:Option Addr) (x82n x82c:Nat),∃w22:World,(Builtin.append_ #[101,101] 101 #[.slice x81 x81n x81c,.slice (some (⟨b69,0,none⟩:Addr)) 1 1]).run Tryz.prog w21=.ok (.slice x82 x82n x82c) w22∧
      (
       ldC w22 (p34.add 4) fun x83 x83n x83c=>
       ((.slice x83 x83n x83c:Value)=.slice x35 x35n x35c))∧
      ixA x35 x35n x72 1 fun p84=>
      st w22 (p84.add 0) (.slice x82 x82n x82c) fun w23=>
      R (.bool true) w23)) (
     k15 ((IntKind.wrap .i64 (v14+1)),()) w7)) (
    R (.bool false) w3)) (0,()) w2)
def An117:An:=.seq (.leaf) (.seq (.leaf) (.seq (.seq (.leaf) (.cond (.seq (.leaf) (.leaf)) (.leaf))) (.seq (.seq (.leaf) (.blk (.loop [(25,.one (.int .i64))] (.seq (.leaf) (.seq (.cond (.leaf) (.leaf)) (.seq (.blk (.seq (.leaf) (.seq (.leaf) (.cond (.seq (.leaf) (.seq (.draw [0,1,3,7,0,16,0,64,192,448,0,1072,4080,8176,0,16384,65520,131071,262143]) (.seq (.leaf) (.leaf)))) (.leaf))))) (.leaf))))))) (.seq (.leaf) (.leaf)))))
theorem V117_eq (a0:Option Addr) (a1:Option Addr) (a2:Int) (w:World) (R:Value→World→Prop):evF Tryz.prog Tryz.f117 An117 [.pointer a0,.pointer a1,.int .i64 a2] w R=V117 a0 a1 a2 w R:=by kernel_rfl
theorem V117_calls (a0:Option Addr) (a1:Option Addr) (a2:Int) (w:World) (R:Value→World→Prop) (h:V117 a0 a1 a2 w R):Calls Tryz.prog 117 #[.pointer a0,.pointer a1,.int .i64 a2] w fun e w'=>∃v,e=.returned v∧R v w':=
 calls_of_ev (args:=[.pointer a0,.pointer a1,.int .i64 a2]) Tryz.func117 (Nat.le_of_ble_eq_true (by kernel_rfl)) (by rw [V117_eq]; exact h)
theorem ok117:fnOk Tryz.prog 117=true:=by kernel_rfl
def V118 (a0:Option Addr) (a1:Int) (w:World) (R:Value→World→Prop):Prop:=
 nn a0 fun p3=>
 ixA (some (p3.add 2)) 2 0 1 fun p4=>
 ldI .i64 w p4 fun x5=>
 pif (x5==a1) (
  nn a0 fun p7=>
  ixA (some (p7.add 2)) 2 1 1 fun p8=>
  ldI .i64 w p8 fun x9=>
  R (.int .i64 x9) w) (
  nn a0 fun p11=>
  ixA (some (p11.add 2)) 2 0 1 fun p12=>
  ldI .i64 w p12 fun x13=>
  R (.int .i64 x13) w)
def An118:An:=.seq (.leaf) (.seq (.seq (.leaf) (.cond (.seq (.leaf) (.leaf)) (.leaf))) (.seq (.leaf) (.leaf)))
theorem V118_eq (a0:Option Addr) (a1:Int) (w:World) (R:Value→World→Prop):evF Tryz.prog Tryz.f118 An118 [.pointer a0,.int .i64 a1] w R=V118 a0 a1 w R:=by kernel_rfl
theorem V118_calls (a0:Option Addr) (a1:Int) (w:World) (R:Value→World→Prop) (h:V118 a0 a1 w R):Calls Tryz.prog 118 #[.pointer a0,.int .i64 a1] w fun e w'=>∃v,e=.returned v∧R v w':=
 calls_of_ev (args:=[.pointer a0,.int .i64 a1]) Tryz.func118 (Nat.le_of_ble_eq_true (by kernel_rfl)) (by rw [V118_eq]; exact h)
theorem ok118:fnOk Tryz.prog 118=true:=by kernel_rfl
def V205 (a0:Option Addr) (a1_0:Bool) (a1_1:Option Addr) (a1_1n:Nat) (a1_1c:Nat) (w:World) (R:Value→World→Prop):Prop:=
 alc w [.bool a1_0,.slice a1_1 a1_1n a1_1c] 123 fun b2 w1=>
 nn a0 fun p3=>
 ldC (World.drew w1) (p3.add 0) fun x4 x4n x4c=>
 ldB (World.drew w1) ((⟨b2,0,none⟩:Addr).add 0) fun x5=>
 ldC (World.drew w1) ((⟨b2,0,none⟩:Addr).add 1) fun x6 x6n x6c=>
 cl Tryz.prog 56 [.slice x6 x6n x6c] (World.drew w1) fun e8 w2=>∃(x7:Option Addr) (x7n x7c:Nat),e8=Ending.returned (.slice x7 x7n x7c)∧
 (
  ldB w2 ((⟨b2,0,none⟩:Addr).add 0) fun x9=>
  ((.bool x9:Value)=.bool x5))∧
 (
  ldC w2 (p3.add 0) fun x10 x10n x10c=>
  ((.slice x10 x10n x10c:Value)=.slice x4 x4n x4c))∧
 alc w2 [.bool x5,.slice x7 x7n x7c] 123 fun b11 w3=>
 (
  ldC w3 (p3.add 0) fun x12 x12n x12c=>
  ((.slice x12 x12n x12c:Value)=.slice x4 x4n x4c))∧
 ∃(x13:Option Addr) (x13n x13c:Nat),∃w4:World,(Builtin.append_ #[78,78] 78 #[.slice x4 x4n x4c,.slice (some (⟨b11,0,none⟩:Addr)) 1 1]).run Tryz.prog w3=.ok (.slice x13 x13n x13c) w4∧
 nn a0 fun p14=>
 st w4 ((p14.add 0).add 0) (.slice x13 x13n x13c) fun w5=>
 R (.tuple #[]) w5
def An205:An:=.seq (.leaf) (.draw [0,0,2,6,14,0,32,0,128,384,992,2016,4094,8191,16383,32767])
theorem V205_eq (a0:Option Addr) (a1_0:Bool) (a1_1:Option Addr) (a1_1n:Nat) (a1_1c:Nat) (w:World) (R:Value→World→Prop):evF Tryz.prog Tryz.f205 An205 [.pointer a0,.agg #[.bool a1_0,.slice a1_1 a1_1n a1_1c]] w R=V205 a0 a1_0 a1_1 a1_1n a1_1c w R:=by kernel_rfl
theorem V205_calls (a0:Option Addr) (a1_0:Bool) (a1_1:Option Addr) (a1_1n:Nat) (a1_1c:Nat) (w:World) (R:Value→World→Prop) (h:V205 a0 a1_0 a1_1 a1_1n a1_1c w R):Calls Tryz.prog 205 #[.pointer a0,.agg #[.bool a1_0,.slice a1_1 a1_1n a1_1c]] w fun e w'=>∃v,e=.returned v∧R v w':=
 calls_of_ev (args:=[.pointer a0,.agg #[.bool a1_0,.slice a1_1 a1_1n a1_1c]]) Tryz.func205 (Nat.le_of_ble_eq_true (by kernel_rfl)) (by rw [V205_eq]; exact h)
theorem ok205:fnOk Tryz.prog 205=true:=by kernel_rfl
end Go.Proofs.YtmhjehodfggleaaGreat.T

/- An Engine in plain, and how it stands in memory. -/

set_option linter.unusedVariables false
set_option linter.unusedSimpArgs false
set_option linter.unusedSectionVars false
set_option maxRecDepth 100000
namespace Go.Proofs.YtmhjehodfggleaaGreat.Eng
open Go Go.Proofs.YtmhjehodfggleaaGreat.Vc Go.Proofs.YtmhjehodfggleaaGreat.T
open Go.Proofs.YtmhjehodfggleaaGreat.Apart (RdL own_rdl wrap_nat getE own_len take_snoc Sl sv New)
open Go.Proofs.YtmhjehodfggleaaGreat.Lits (fl fl_iff Ans ans_of formedP idx idx_range indexP)
open Go.Proofs.YtmhjehodfggleaaGreat.Arn (Ar AR)
open Go.Proofs.YtmhjehodfggleaaGreat.Trail (TI Tr St valA levA reaA ownB Moved TLaid above upto)
abbrev I (n:Int):Value:=.int .i64 n
abbrev J8 (n:Int):Value:=.int .i8 n
abbrev Pt (b:Nat):Value:=.pointer (some ⟨b,0,none⟩)
abbrev E:=Trail.E
structure Hd where
 at_:Int
 ls:List Int
 e0:Int
 e1:Int
 gone:Bool
structure ES where
 nv:Nat
 ar:Ar
 R:List E
 L:List Int
 lists:List (List Nat)
 short:List Nat
 learnts:List Nat
 H:List Hd
 log:List (Bool×List Int)
 head:Nat
 rest:Bool
 clash:Bool
 dead:Bool
 bad:Int
structure Hs where
 st:Nat
 T:TI
 oo:Sl
 ll:Sl
 hh:List Sl
 ss:Sl
 le:Sl
 bk:Nat
 lg:Sl
 gl:List Sl
 hb:Nat→Nat
 hl:Nat→Sl
def idxN (l:Int):Nat:=(idx l).toNat
def step2 (x:(Bool×List Int)×Sl):List Value:=[.bool x.1.1,sv x.2]
structure Rp (ex:Nat→Prop) (w:World) (b:Nat) (o:Nat→Int) (h:Hs) (S:ES):Prop where
 self:Blk w b [I S.nv,Pt h.st,Pt h.T.t,sv h.oo,sv h.ll,sv h.ss,sv h.le,.iface 98 (Pt h.bk),I S.head,.bool S.rest,.bool S.clash,.bool S.dead,I S.bad] 106
 selfO:o b=-1
 ar:AR (fun i=>o i=-2∧i<w.heap.size) w h.st S.ar
 tr:Tr S.nv w h.T S.R S.L
 trO:∀i,h.T.F i→o i=-3
 oo:Own w 3 1 h.oo.1 h.oo.2.1 h.oo.2.2 ((S.R.map fun e=>e.lit).map I)
 ooO:∀i,ob h.oo.1 i→o i=-4
 out:Own w 101 1 h.ll.1 h.ll.2.1 h.ll.2.2 (h.hh.map sv)
 outO:∀i,ob h.ll.1 i→o i=-5
 hhl:h.hh.length=2*S.nv
 lsl:S.lists.length=2*S.nv
 inn:∀(i:Nat) (x:Sl) (ids:List Nat),h.hh[i]?=some x→S.lists[i]?=some ids→¬ex i→Own w 110 1 x.1 x.2.1 x.2.2 (ids.map fun k=>Pt (h.hb k))
 innO:∀(i:Nat) (x:Sl),h.hh[i]?=some x→∀j,ob x.1 j→o j=i∧j<w.heap.size
 sh:Own w 110 1 h.ss.1 h.ss.2.1 h.ss.2.2 (S.short.map fun k=>Pt (h.hb k))
 shO:∀i,ob h.ss.1 i→o i=-6
 le:Own w 110 1 h.le.1 h.le.2.1 h.le.2.2 (S.learnts.map fun k=>Pt (h.hb k))
 leO:∀i,ob h.le.1 i→o i=-7
 bk:Blk w h.bk [sv h.lg] 100
 bkO:o h.bk=-8
 lg:Own w 123 2 h.lg.1 h.lg.2.1 h.lg.2.2 ((S.log.zip h.gl).flatMap step2)
 lgO:∀i,ob h.lg.1 i→o i=-10
 gll:h.gl.length=S.log.length
 gl:∀(i:Nat) (x:Bool×List Int) (y:Sl),S.log[i]?=some x→h.gl[i]?=some y→RdL w y.1 y.2.1 x.2∧∀j,ob y.1 j→o j=-11∧j<w.heap.size
 held:∀(i:Nat) (d:Hd),S.H[i]?=some d→Blk w (h.hb i) [I d.at_,sv (h.hl i),I d.e0,I d.e1,.bool d.gone] 113∧o (h.hb i)=-12∧RdL w (h.hl i).1 (h.hl i).2.1 d.ls∧∀j,ob (h.hl i).1 j→o j=-13∧j<w.heap.size
 inj:∀i j,i<S.H.length→j<S.H.length→h.hb i=h.hb j→i=j
 nrm:∀j,w.heap.size≤j→o j=-9
def Ag (w:World) (o o':Nat→Int):Prop:=∀i,i<w.heap.size→o' i=o i
section
variable {ex:Nat→Prop} {w w' w1 w2:World} {b:Nat} {o o' o1 o2:Nat→Int} {h h':Hs} {S S':ES} {T:Int→Prop}
theorem Ag.refl (w:World) (o:Nat→Int):Ag w o o:=fun _ _=>rfl
theorem Ag.trans (h:Ag w o o1) (h':Ag w1 o1 o2) (hs:w.heap.size≤w1.heap.size):Ag w o o2:=fun i hi=>by rw [h' i (by omega),h i hi]
theorem keep_ag (h:Keep (fun i=>T (o i)) w w1) (ha:Ag w o o1) (h':Keep (fun i=>T (o1 i)) w1 w2):Keep (fun i=>T (o i)) w w2:=
 h.trans h' fun i hi ht=>by rw [ha i hi] at ht; exact ht
theorem ar_grow {M M':Nat→Prop} {b:Nat} {A:Ar} (h:AR M w b A) (hm:∀i,M i→M' i) (hl:∀i,M' i→i<w.heap.size):AR M' w b A:=by
 obtain ⟨wp,wn,wc,r,op,oc,os,h1,h2,h3,h4,m1,m2,m3,d1,d2,d3⟩:=h.rep
 exact ⟨⟨wp,wn,wc,r,op,oc,os,h1,h2,h3,h4,hm _ m1,fun i hi=>hm i (m2 i hi),fun i hi=>hm i (m3 i hi),d1,d2,d3⟩,hm _ h.own,hl,h.lv⟩
theorem Rp.keepX {U:Nat→Prop} (hR:Rp ex w b o h S) (hk:Keep U w w') (hU:∀i,i<w.heap.size→U i→o i=-9):Rp ex w' b o h S:=by
 have no:∀{i:Nat} {t:Int},i<w.heap.size→o i=t→t≠-9→¬U i:=fun hi ho ht hu=>by have:=hU _ hi hu; omega
 have nO:∀{e:TypeId} {sz:Nat} {p:Option Addr} {n c:Nat} {xs:List Value} {t:Int},Own w e sz p n c xs→(∀i,ob p i→o i=t)→t≠-9→∀i,ob p i→¬U i:=fun hO ht hne i hi=>no (hO.lt i hi) (ht i hi) hne
 have z:=hk.size
 have har:AR (fun i=>o i=-2∧i<w'.heap.size) w' h.st S.ar:=ar_grow ((hR.ar).keep (U:=fun i=>U i∧i<w.heap.size) ⟨hk.os,hk.tape,hk.output,hk.size,fun i hi hn=>hk.block i hi fun hu=>hn ⟨hu,hi⟩⟩ fun i hi hh=>no hi.2 hh.1 (by decide) hi.1) (fun i hi=>⟨hi.1,by omega⟩) (fun i hi=>hi.2)
 exact ⟨hR.self.keep hk (no hR.self.lt hR.selfO (by decide)),hR.selfO,har,hR.tr.keep hk (fun i hi hu=>no (hR.tr.lt i hi) (hR.trO i hi) (by decide) hu),hR.trO,
  hR.oo.keep hk (nO hR.oo hR.ooO (by decide)),hR.ooO,hR.out.keep hk (nO hR.out hR.outO (by decide)),hR.outO,hR.hhl,hR.lsl,
  fun i x ids hx hi hn=>(hR.inn i x ids hx hi hn).keep hk fun j hj=>no (hR.innO i x hx j hj).2 (hR.innO i x hx j hj).1 (by omega),
  fun i x hx j hj=>⟨(hR.innO i x hx j hj).1,by have:=(hR.innO i x hx j hj).2; omega⟩,
  hR.sh.keep hk (nO hR.sh hR.shO (by decide)),hR.shO,hR.le.keep hk (nO hR.le hR.leO (by decide)),hR.leO,hR.bk.keep hk (no hR.bk.lt hR.bkO (by decide)),hR.bkO,
  hR.lg.keep hk (nO hR.lg hR.lgO (by decide)),hR.lgO,hR.gll,
  fun i x y hx hy=>⟨(hR.gl i x y hx hy).1.keep hk fun j hj=>no ((hR.gl i x y hx hy).2 j hj).2 ((hR.gl i x y hx hy).2 j hj).1 (by decide),fun j hj=>⟨((hR.gl i x y hx hy).2 j hj).1,by have:=((hR.gl i x y hx hy).2 j hj).2; omega⟩⟩,
  fun i d hd=>by
   obtain ⟨h1,h2,h3,h4⟩:=hR.held i d hd
   exact ⟨h1.keep hk (no h1.lt h2 (by decide)),h2,h3.keep hk (fun j hj=>no (h4 j hj).2 (h4 j hj).1 (by decide)),fun j hj=>⟨(h4 j hj).1,by have:=(h4 j hj).2; omega⟩⟩,hR.inj,fun j hj=>hR.nrm j (by omega)⟩
theorem Rp.keep0 (hR:Rp ex w b o h S) (hk:Keep None w w'):Rp ex w' b o h S:=hR.keepX hk fun i _ hi=>hi.elim
theorem Rp.tag (hR:Rp ex w b o h S) (ha:∀j,o j≠-9→o' j=o j) (hn:∀j,w.heap.size≤j→o' j=-9):Rp ex w b o' h S:=by
 have har:AR (fun i=>o' i=-2∧i<w.heap.size) w h.st S.ar:=ar_grow hR.ar (fun i hi=>⟨by rw [ha i (by rw [hi.1]; decide)]; exact hi.1,hi.2⟩) fun i hi=>hi.2
 have q:∀{P:Nat→Prop} {t:Int},t≠-9→(∀i,P i→o i=t)→∀i,P i→o' i=t:=fun hne ht i hi=>by rw [ha i (by rw [ht i hi]; exact hne)]; exact ht i hi
 have q1:∀{i:Nat} {t:Int},t≠-9→o i=t→o' i=t:=fun hne ht=>by rw [ha _ (by rw [ht]; exact hne)]; exact ht
 exact ⟨hR.self,q1 (by decide) hR.selfO,har,hR.tr,q (by decide) hR.trO,hR.oo,q (by decide) hR.ooO,hR.out,q (by decide) hR.outO,hR.hhl,hR.lsl,hR.inn,
  fun i x hx j hj=>⟨q1 (by omega) (hR.innO i x hx j hj).1,(hR.innO i x hx j hj).2⟩,hR.sh,q (by decide) hR.shO,hR.le,q (by decide) hR.leO,hR.bk,q1 (by decide) hR.bkO,hR.lg,q (by decide) hR.lgO,hR.gll,
  fun i x y hx hy=>⟨(hR.gl i x y hx hy).1,fun j hj=>⟨q1 (by decide) ((hR.gl i x y hx hy).2 j hj).1,((hR.gl i x y hx hy).2 j hj).2⟩⟩,
  fun i d hd=>by
   obtain ⟨h1,h2,h3,h4⟩:=hR.held i d hd
   exact ⟨h1,q1 (by decide) h2,h3,fun j hj=>⟨q1 (by decide) (h4 j hj).1,(h4 j hj).2⟩⟩,hR.inj,hn⟩
def Nx (T:Int→Prop) (ex:Nat→Prop) (w:World) (b:Nat) (o:Nat→Int) (h:Hs) (S':ES) (w':World):Prop:=
 ∃o' h',Rp ex w' b o' h' S'∧Ag w o o'∧Keep (fun i=>T (o i)) w w'∧h'.hb=h.hb
end
def tMine (t:Int):Prop:=t≠-9
def vl (S:ES) (l:Int):Int:=valA S.nv S.R l
def other (d:Hd) (l:Int):Int:=if d.e0=l then d.e1 else d.e0
def Wi (nv:Nat) (l:Int):Prop:=l≠0∧-(nv:Int)≤l∧l≤nv
end Go.Proofs.YtmhjehodfggleaaGreat.Eng

/- An Engine in memory: its parts kept; a clause put to a list; how a literal stands. -/

set_option linter.unusedVariables false
set_option linter.unusedSimpArgs false
set_option linter.unusedSectionVars false
set_option maxRecDepth 100000
namespace Go.Proofs.YtmhjehodfggleaaGreat.Eng
open Go Go.Proofs.YtmhjehodfggleaaGreat.Vc Go.Proofs.YtmhjehodfggleaaGreat.T
open Go.Proofs.YtmhjehodfggleaaGreat.Apart (RdL own_rdl wrap_nat getE own_len take_snoc Sl sv New)
open Go.Proofs.YtmhjehodfggleaaGreat.Lits (fl fl_iff Ans ans_of formedP idx idx_range idx_inj indexP)
open Go.Proofs.YtmhjehodfggleaaGreat.Arn (Ar AR)
open Go.Proofs.YtmhjehodfggleaaGreat.Trail (TI Tr St valA levA reaA ownB Moved TLaid above upto)
theorem idxN_eq {nv:Nat} (hnv:nv≤1048576) {l:Int} (h:Wi nv l):idx l=((idxN l:Nat):Int):=by
 unfold idxN; have:=(idx_range (fl_iff.2 ⟨h.1,by have:=h.2.1; omega,by have:=h.2.2; omega⟩)).1; omega
theorem wi_fl {nv:Nat} (hnv:nv≤1048576) {l:Int} (h:Wi nv l):fl l=true:=fl_iff.2 ⟨h.1,by have:=h.2.1; omega,by have:=h.2.2; omega⟩
theorem idxN_lt {nv:Nat} {l:Int} (h:Wi nv l):idxN l<2*nv:=by
 obtain ⟨h0,h1,h2⟩:=h
 unfold idxN idx
 split<;>omega
theorem idxN_inj {nv:Nat} (hnv:nv≤1048576) {l m:Int} (hl:Wi nv l) (hm:Wi nv m) (h:idxN l=idxN m):l=m:=
 idx_inj (wi_fl hnv hl) (wi_fl hnv hm) (by rw [idxN_eq hnv hl,idxN_eq hnv hm,h])
theorem pts_len {w:World} {e:TypeId} {p:Option Addr} {n c:Nat} {f:Nat→Nat} {ys:List Nat} (h:Own w e 1 p n c (ys.map fun k=>Pt (f k))):ys.length=n:=by
 have:=h.len; simpa using this
section
variable {ex:Nat→Prop} {w w':World} {b:Nat} {o:Nat→Int} {h:Hs} {S:ES} {T:Int→Prop}
theorem no_of (hT:∀{t:Int},T t→t≠-9) {i:Nat} {t:Int} (ho:o i=t) (ht:¬T t):¬T (o i):=by rw [ho]; exact ht
theorem own_K {e:TypeId} {sz:Nat} {p:Option Addr} {n c:Nat} {xs:List Value} {t:Int} (hO:Own w e sz p n c xs) (ho:∀i,ob p i→o i=t) (hk:Keep (fun i=>T (o i)) w w') (ht:¬T t):Own w' e sz p n c xs:=
 hO.keep hk fun i hi hh=>by have hh':T (o i):=hh; rw [ho i hi] at hh'; exact ht hh'
theorem blk_K {bb:Nat} {cs:List Value} {ty:TypeId} {t:Int} (hB:Blk w bb cs ty) (ho:o bb=t) (hk:Keep (fun i=>T (o i)) w w') (ht:¬T t):Blk w' bb cs ty:=
 hB.keep hk fun hh=>by have hh':T (o bb):=hh; rw [ho] at hh'; exact ht hh'
theorem Rp.arK (hR:Rp ex w b o h S) (hk:Keep (fun i=>T (o i)) w w') (ht:¬T (-2)):AR (fun i=>o i=-2∧i<w'.heap.size) w' h.st S.ar:=
 ar_grow (hR.ar.keep (U:=fun i=>T (o i)∧i<w.heap.size) ⟨hk.os,hk.tape,hk.output,hk.size,fun i hi hn=>hk.block i hi fun hu=>hn ⟨hu,hi⟩⟩ fun i hi hh=>by
  have h1:=hi.1; rw [hh.1] at h1; exact ht h1) (fun i hi=>⟨hi.1,by have:=hk.size; omega⟩) (fun i hi=>hi.2)
theorem Rp.trK (hR:Rp ex w b o h S) (hk:Keep (fun i=>T (o i)) w w') (ht:¬T (-3)):Tr S.nv w' h.T S.R S.L:=
 hR.tr.keep hk fun i hi hh=>by have hh':T (o i):=hh; rw [hR.trO i hi] at hh'; exact ht hh'
theorem Rp.innOK (hR:Rp ex w b o h S) (hk:Keep (fun i=>T (o i)) w w'):∀(i:Nat) (x:Sl),h.hh[i]?=some x→∀j,ob x.1 j→o j=i∧j<w'.heap.size:=
 fun i x hx j hj=>⟨(hR.innO i x hx j hj).1,by have:=(hR.innO i x hx j hj).2; have:=hk.size; omega⟩
theorem Rp.innK (hR:Rp ex w b o h S) (hk:Keep (fun i=>T (o i)) w w') {ex':Nat→Prop} (ht:∀i:Nat,¬ex' i→¬ex i∧¬T i):∀(i:Nat) (x:Sl) (ids:List Nat),h.hh[i]?=some x→S.lists[i]?=some ids→¬ex' i→Own w' 110 1 x.1 x.2.1 x.2.2 (ids.map fun k=>Pt (h.hb k)):=
 fun i x ids hx hi hn=>own_K (hR.inn i x ids hx hi (ht i hn).1) (fun j hj=>(hR.innO i x hx j hj).1) hk (ht i hn).2
theorem Rp.glK (hR:Rp ex w b o h S) (hk:Keep (fun i=>T (o i)) w w') (ht:¬T (-11)):∀(i:Nat) (x:Bool×List Int) (y:Sl),S.log[i]?=some x→h.gl[i]?=some y→RdL w' y.1 y.2.1 x.2∧∀j,ob y.1 j→o j=-11∧j<w'.heap.size:=
 fun i x y hx hy=>⟨(hR.gl i x y hx hy).1.keep hk fun j hj hh=>by have hh':T (o j):=hh; rw [((hR.gl i x y hx hy).2 j hj).1] at hh'; exact ht hh',fun j hj=>⟨((hR.gl i x y hx hy).2 j hj).1,by have:=((hR.gl i x y hx hy).2 j hj).2; have:=hk.size; omega⟩⟩
theorem Rp.heldK (hR:Rp ex w b o h S) (hk:Keep (fun i=>T (o i)) w w') (ht:¬T (-12)) (ht2:¬T (-13)):∀(i:Nat) (d:Hd),S.H[i]?=some d→Blk w' (h.hb i) [I d.at_,sv (h.hl i),I d.e0,I d.e1,.bool d.gone] 113∧o (h.hb i)=-12∧RdL w' (h.hl i).1 (h.hl i).2.1 d.ls∧∀j,ob (h.hl i).1 j→o j=-13∧j<w'.heap.size:=
 fun i d hd=>by
  obtain ⟨h1,h2,h3,h4⟩:=hR.held i d hd
  exact ⟨blk_K h1 h2 hk ht,h2,h3.keep hk (fun j hj hh=>by have hh':T (o j):=hh; rw [(h4 j hj).1] at hh'; exact ht2 hh'),fun j hj=>⟨(h4 j hj).1,by have:=(h4 j hj).2; have:=hk.size; omega⟩⟩
theorem Rp.exMono {ex':Nat→Prop} (hR:Rp ex w b o h S) (he:∀i,ex i→ex' i):Rp ex' w b o h S:=
 {hR with inn:=fun i x ids hx hi hn=>hR.inn i x ids hx hi fun h=>hn (he i h)}
theorem Rp.outAt (hR:Rp ex w b o h S) {i:Nat} {x:Sl} (hx:h.hh[i]?=some x) {K:Addr→Prop} (hK:∀a,w.cell? a=some (sv x)→K a):ixA h.ll.1 h.ll.2.1 (i:Int) 1 K:=by
 have hl:=hR.out.len
 have hi:=(List.getElem?_eq_some_iff.1 hx).1
 rw [List.length_map] at hl
 refine hR.out.ix (by omega) (by omega) fun bb hb=>hK _ ?_
 have hO:=hR.out
 rw [hb] at hO
 rw [hO.cell _ (by omega),Int.toNat_natCast,Nat.mul_one,List.getElem?_map,hx]; rfl
theorem appH (hR:Rp ex w b o h S) {i:Nat} {x:Sl} {ids:List Nat} (hx:h.hh[i]?=some x) (hids:S.lists[i]?=some ids) (hne:¬ex i) (hlen:ids.length≤17592186044415) {k bb:Nat} (hB:Blk w bb [Pt (h.hb k)] 110)
  {K:Option Addr→Nat→Nat→World→Prop}
  (hK:∀(g:Sl) (w':World) (o':Nat→Int),Rp (fun j=>ex j∨j=i) w' b o' h S→Ag w o o'→Own w' 110 1 g.1 g.2.1 g.2.2 ((ids++[k]).map fun k=>Pt (h.hb k))→(∀j,ob g.1 j→o' j=i)→Keep (fun j=>o j=i) w w'→K g.1 g.2.1 g.2.2 w') :
  ∃(p':Option Addr) (n' c':Nat),∃w':World,(Builtin.append_ #[101,101] 101 #[.slice x.1 x.2.1 x.2.2,.slice (some (⟨bb,0,none⟩:Addr)) 1 1]).run Tryz.prog w=.ok (.slice p' n' c') w'∧K p' n' c' w':=by
 have hO:=hR.inn i x ids hx hids hne
 have hn:=pts_len hO
 have hxo:=hR.innO i x hx
 refine app_of2 (e:=110) (sz:=1) (z:=.pointer none) (B:=8) Tryz.underlying101 (by kernel_rfl) rfl (by omega) hO hB.news1 (fun u hu=>?_) (by simp only [maxLen]; omega) (by omega) fun p' c' w' hO' hd=>?_
 ·simp only [List.mem_singleton] at hu; subst hu; rfl
 have kk:Keep (fun j=>(fun t:Int=>t=i) (o j)) w w':=by
  rcases hd with ⟨_,_,_,kk⟩ | ⟨_,kk⟩
  ·exact kk.mono fun j _ hj=>(hxo j hj).1
  ·exact kk.none
 have z:=kk.size
 have ni:∀{t:Int},t<0→¬t=(i:Int):=fun h hh=>by omega
 have hR2:Rp (fun j=>ex j∨j=i) w' b o h S:=⟨blk_K (T:=fun t=>t=i) hR.self hR.selfO kk (ni (by decide)),hR.selfO,hR.arK (T:=fun t=>t=i) kk (ni (by decide)),hR.trK (T:=fun t=>t=i) kk (ni (by decide)),hR.trO,own_K (T:=fun t=>t=i) hR.oo hR.ooO kk (ni (by decide)),hR.ooO,own_K (T:=fun t=>t=i) hR.out hR.outO kk (ni (by decide)),hR.outO,hR.hhl,hR.lsl,
  hR.innK (T:=fun t=>t=i) kk (fun j hj=>⟨fun hh=>hj (Or.inl hh),fun hh=>hj (Or.inr (by omega))⟩),hR.innOK (T:=fun t=>t=i) kk,own_K (T:=fun t=>t=i) hR.sh hR.shO kk (ni (by decide)),hR.shO,own_K (T:=fun t=>t=i) hR.le hR.leO kk (ni (by decide)),hR.leO,blk_K (T:=fun t=>t=i) hR.bk hR.bkO kk (ni (by decide)),hR.bkO,own_K (T:=fun t=>t=i) hR.lg hR.lgO kk (ni (by decide)),hR.lgO,hR.gll,hR.glK (T:=fun t=>t=i) kk (ni (by decide)),hR.heldK (T:=fun t=>t=i) kk (ni (by decide)) (ni (by decide)),hR.inj,fun j hj=>hR.nrm j (by omega)⟩
 refine hK (p',x.2.1+1,c') w' (fun j=>if j<w.heap.size then o j else if j<w'.heap.size then i else -9) (hR2.tag (fun j hj=>?_) fun j hj=>?_) (fun j hj=>if_pos hj) (by rw [List.map_append]; exact hO') (fun j hj=>?_) kk
 ·have hlt:j<w.heap.size:=by
   apply Classical.byContradiction
   intro hn
   exact hj (hR.nrm j (by omega))
  exact if_pos hlt
 ·show (if j<w.heap.size then o j else if j<w'.heap.size then (i:Int) else -9)=-9
  rw [if_neg (by omega),if_neg (by omega)]
 ·show (if j<w.heap.size then o j else if j<w'.heap.size then (i:Int) else -9)=i
  have:=hO'.lt j hj
  rcases hd with ⟨e,_,_,_⟩ | ⟨e,_⟩
  ·rw [e] at hj
   rw [if_pos (hxo j hj).2]; exact (hxo j hj).1
  ·have:=e j hj
   rw [if_neg (by omega),if_pos (by omega)]
theorem setOut {i:Nat} {ids':List Nat} {g:Sl} (hR:Rp (fun j=>ex j∨j=i) w b o h S) (hi:i<2*S.nv) (hO:Own w 110 1 g.1 g.2.1 g.2.2 (ids'.map fun k=>Pt (h.hb k))) (hg:∀j,ob g.1 j→o j=i) {K:World→Prop}
  (hK:∀w',Rp ex w' b o {h with hh:=h.hh.set i g} {S with lists:=S.lists.set i ids'}→Keep (fun j=>o j=-5) w w'→K w') :
  ixA h.ll.1 h.ll.2.1 (i:Int) 1 fun p=>st w (p.add 0) (.slice g.1 g.2.1 g.2.2) K:=by
 have hl:=hR.out.len
 rw [List.length_map] at hl
 have hhl:=hR.hhl
 have hll:=hR.lsl
 refine hR.out.ix (by omega) (by omega) fun bb hb=>?_
 rw [Int.toNat_natCast,Nat.mul_one,add_mk,Nat.add_zero]
 have hOut:=hR.out
 rw [hb] at hOut
 refine hOut.st (by omega) rfl fun w' out' k1 z1=>?_
 have kk:Keep (fun j=>(fun t:Int=>t=-5) (o j)) w w':=k1.mono fun j _ hj=>hR.outO j ⟨_,hb,(show j=bb from hj).symm⟩
 refine hK w' ⟨blk_K (T:=fun t=>t=-5) hR.self hR.selfO kk (by decide),hR.selfO,Rp.arK (h:=h) (S:=S) (T:=fun t=>t=-5) hR kk (by decide),Rp.trK (h:=h) (S:=S) (T:=fun t=>t=-5) hR kk (by decide),hR.trO,own_K (T:=fun t=>t=-5) hR.oo hR.ooO kk (by decide),hR.ooO,by rw [List.map_set,hb]; exact out',hR.outO,by rw [List.length_set]; exact hhl,by rw [List.length_set]; exact hll,
  fun j y ids hy hj hnj=>?_,fun j y hy t ht=>?_,own_K (T:=fun t=>t=-5) hR.sh hR.shO kk (by decide),hR.shO,own_K (T:=fun t=>t=-5) hR.le hR.leO kk (by decide),hR.leO,blk_K (T:=fun t=>t=-5) hR.bk hR.bkO kk (by decide),hR.bkO,own_K (T:=fun t=>t=-5) hR.lg hR.lgO kk (by decide),hR.lgO,hR.gll,Rp.glK (h:=h) (S:=S) (T:=fun t=>t=-5) hR kk (by decide),Rp.heldK (h:=h) (S:=S) (T:=fun t=>t=-5) hR kk (by decide) (by decide),hR.inj,fun j hj=>hR.nrm j (by rw [←z1]; exact hj)⟩ kk
 ·by_cases hji:j=i
  ·subst hji
   rw [List.getElem?_set_self (by omega)] at hy hj
   injection hy with hy; injection hj with hj; subst hy hj
   exact hO.keep kk fun t ht hh=>by have:=hg t ht; have hh':o t=-5:=hh; omega
  ·rw [List.getElem?_set_ne (fun e=>hji e.symm)] at hy hj
   exact Rp.innK (h:=h) (S:=S) (T:=fun t=>t=-5) hR (ex':=fun j=>ex j∨j=i) kk (fun t ht=>⟨ht,fun hh=>by omega⟩) j y ids hy hj fun he=>by rcases he with he | he; exact hnj he; exact hji he
 ·by_cases hji:j=i
  ·subst hji
   rw [List.getElem?_set_self (by omega)] at hy
   injection hy with hy; subst hy
   exact ⟨hg t ht,Nat.lt_of_lt_of_le (hO.lt t ht) kk.size⟩
  ·rw [List.getElem?_set_ne (fun e=>hji e.symm)] at hy
   exact Rp.innOK (h:=h) (S:=S) (T:=fun t=>t=-5) hR kk j y hy t ht
end
def Push3 (b hb:Nat) (x42:Option Addr) (x42n x42c:Nat) (x44:Option Addr) (x44n x44c:Nat) (l:Int) (W:World) (K:World→Prop):Prop:=
     (
      cl Tryz.prog 94 [.int .i64 l] W fun e46 w8=>∃x45:Int,e46=Ending.returned (.int .i64 x45)∧
      (
       ldC w8 ((⟨b,0,none⟩:Addr).add 4) fun x47 x47n x47c=>
       ((.slice x47 x47n x47c:Value)=.slice x44 x44n x44c))∧
      (
       ldC w8 ((⟨b,0,none⟩:Addr).add 4) fun x48 x48n x48c=>
       ((.slice x48 x48n x48c:Value)=.slice x42 x42n x42c))∧
      (
       cl Tryz.prog 94 [.int .i64 l] w8 fun e50 w9=>∃x49:Int,e50=Ending.returned (.int .i64 x49)∧
       (
        ldC w9 ((⟨b,0,none⟩:Addr).add 4) fun x51 x51n x51c=>
        ((.slice x51 x51n x51c:Value)=.slice x44 x44n x44c))∧
       (
        ldC w9 ((⟨b,0,none⟩:Addr).add 4) fun x52 x52n x52c=>
        ((.slice x52 x52n x52c:Value)=.slice x42 x42n x42c))∧
       ixA x44 x44n x49 1 fun p53=>
       ldC w9 p53 fun x54 x54n x54c=>
       alc w9 [Pt hb] 110 fun b55 w10=>
       (
        ldC w10 p53 fun x56 x56n x56c=>
        ((.slice x56 x56n x56c:Value)=.slice x54 x54n x54c))∧
       (
        ldC w10 ((⟨b,0,none⟩:Addr).add 4) fun x57 x57n x57c=>
        ((.slice x57 x57n x57c:Value)=.slice x44 x44n x44c))∧
       (
        ldC w10 ((⟨b,0,none⟩:Addr).add 4) fun x58 x58n x58c=>
        ((.slice x58 x58n x58c:Value)=.slice x42 x42n x42c))∧
       ∃(x59:Option Addr) (x59n x59c:Nat),∃w11:World,(Builtin.append_ #[101,101] 101 #[.slice x54 x54n x54c,.slice (some (⟨b55,0,none⟩:Addr)) 1 1]).run Tryz.prog w10=.ok (.slice x59 x59n x59c) w11∧
       (
        ldC w11 ((⟨b,0,none⟩:Addr).add 4) fun x60 x60n x60c=>
        ((.slice x60 x60n x60c:Value)=.slice x42 x42n x42c))∧
       ixA x42 x42n x45 1 fun p61=>
       st w11 (p61.add 0) (.slice x59 x59n x59c) fun w12=>
       K w12)∧
      (
       alc w8 [Pt hb] 110 fun b63 w13=>
       (
        ldC w13 ((⟨b,0,none⟩:Addr).add 4) fun x64 x64n x64c=>
        ((.slice x64 x64n x64c:Value)=.slice x44 x44n x44c))∧
       (
        ldC w13 ((⟨b,0,none⟩:Addr).add 4) fun x65 x65n x65c=>
        ((.slice x65 x65n x65c:Value)=.slice x42 x42n x42c))∧
       cl Tryz.prog 94 [.int .i64 l] w13 fun e67 w14=>∃x66:Int,e67=Ending.returned (.int .i64 x66)∧
       (
        ldC w14 ((⟨b,0,none⟩:Addr).add 4) fun x68 x68n x68c=>
        ((.slice x68 x68n x68c:Value)=.slice x44 x44n x44c))∧
       (
        ldC w14 ((⟨b,0,none⟩:Addr).add 4) fun x69 x69n x69c=>
        ((.slice x69 x69n x69c:Value)=.slice x42 x42n x42c))∧
       ixA x44 x44n x66 1 fun p70=>
       ldC w14 p70 fun x71 x71n x71c=>
       ∃(x72:Option Addr) (x72n x72c:Nat),∃w15:World,(Builtin.append_ #[101,101] 101 #[.slice x71 x71n x71c,.slice (some (⟨b63,0,none⟩:Addr)) 1 1]).run Tryz.prog w14=.ok (.slice x72 x72n x72c) w15∧
       (
        ldC w15 ((⟨b,0,none⟩:Addr).add 4) fun x73 x73n x73c=>
        ((.slice x73 x73n x73c:Value)=.slice x42 x42n x42c))∧
       ixA x42 x42n x45 1 fun p74=>
       st w15 (p74.add 0) (.slice x72 x72n x72c) fun w16=>
       K w16))∧
     (
      alc W [Pt hb] 110 fun b76 w17=>
      (
       ldC w17 ((⟨b,0,none⟩:Addr).add 4) fun x77 x77n x77c=>
       ((.slice x77 x77n x77c:Value)=.slice x44 x44n x44c))∧
      (
       ldC w17 ((⟨b,0,none⟩:Addr).add 4) fun x78 x78n x78c=>
       ((.slice x78 x78n x78c:Value)=.slice x42 x42n x42c))∧
      cl Tryz.prog 94 [.int .i64 l] w17 fun e80 w18=>∃x79:Int,e80=Ending.returned (.int .i64 x79)∧
      (
       ldC w18 ((⟨b,0,none⟩:Addr).add 4) fun x81 x81n x81c=>
       ((.slice x81 x81n x81c:Value)=.slice x44 x44n x44c))∧
      (
       ldC w18 ((⟨b,0,none⟩:Addr).add 4) fun x82 x82n x82c=>
       ((.slice x82 x82n x82c:Value)=.slice x42 x42n x42c))∧
      cl Tryz.prog 94 [.int .i64 l] w18 fun e84 w19=>∃x83:Int,e84=Ending.returned (.int .i64 x83)∧
      (
       ldC w19 ((⟨b,0,none⟩:Addr).add 4) fun x85 x85n x85c=>
       ((.slice x85 x85n x85c:Value)=.slice x44 x44n x44c))∧
      (
       ldC w19 ((⟨b,0,none⟩:Addr).add 4) fun x86 x86n x86c=>
       ((.slice x86 x86n x86c:Value)=.slice x42 x42n x42c))∧
      ixA x44 x44n x83 1 fun p87=>
      ldC w19 p87 fun x88 x88n x88c=>
      ∃(x89:Option Addr) (x89n x89c:Nat),∃w20:World,(Builtin.append_ #[101,101] 101 #[.slice x88 x88n x88c,.slice (some (⟨b76,0,none⟩:Addr)) 1 1]).run Tryz.prog w19=.ok (.slice x89 x89n x89c) w20∧
      (
       ldC w20 ((⟨b,0,none⟩:Addr).add 4) fun x90 x90n x90c=>
       ((.slice x90 x90n x90c:Value)=.slice x42 x42n x42c))∧
      ixA x42 x42n x79 1 fun p91=>
      st w20 (p91.add 0) (.slice x89 x89n x89c) fun w21=>
      K w21)
def tPush (i:Nat) (t:Int):Prop:=t=-5∨t=i
theorem push3 {ex:Nat→Prop} {w:World} {b:Nat} {o:Nat→Int} {h:Hs} {S:ES} (hR:Rp ex w b o h S) (hnv:S.nv≤1048576) {l:Int} (hl:Wi S.nv l) {ids:List Nat} (hids:S.lists[idxN l]?=some ids) (hne:¬ex (idxN l)) (hlen:ids.length≤17592186044415) {k:Nat}
  {K:World→Prop} (hK:∀w',Nx (tPush (idxN l)) ex w b o h {S with lists:=S.lists.set (idxN l) (ids++[k])} w'→K w') :
  Push3 b (h.hb k) h.ll.1 h.ll.2.1 h.ll.2.2 h.ll.1 h.ll.2.1 h.ll.2.2 l w K:=by
 have hi:=idxN_lt hl
 obtain ⟨x,hx⟩:=getE (show idxN l<h.hh.length by rw [hR.hhl]; exact hi)
 have hfl:=wi_fl hnv hl
 have eix:=idxN_eq hnv hl
 -- the end,behind the new cell
 have fin:∀(W:World) (bb:Nat),Keep None w W→Blk W bb [Pt (h.hb k)] 110→
   ∃(x59:Option Addr) (x59n x59c:Nat),∃w11:World,(Builtin.append_ #[101,101] 101 #[.slice x.1 x.2.1 x.2.2,.slice (some (⟨bb,0,none⟩:Addr)) 1 1]).run Tryz.prog W=.ok (.slice x59 x59n x59c) w11∧
    (ldC w11 ((⟨b,0,none⟩:Addr).add 4) fun x60 x60n x60c=>((.slice x60 x60n x60c:Value)=.slice h.ll.1 h.ll.2.1 h.ll.2.2))∧
    ixA h.ll.1 h.ll.2.1 (idx l) 1 fun p61=>st w11 (p61.add 0) (.slice x59 x59n x59c) fun w12=>K w12:=by
  intro W bb kW hB
  have hRW:=hR.keep0 kW
  refine appH hRW hx hids hne hlen hB fun g w' o' hR' ha hO hg kk=>⟨?_,?_⟩
  ·rw [add_mk]
   exact ldC_of (x:=h.ll.1) (n:=h.ll.2.1) (c:=h.ll.2.2) (hR'.self.cell 4) rfl
  ·rw [eix]
   refine setOut hR' hi hO hg fun w3 hR3 k3=>hK w3 ⟨o',_,hR3,?_,?_,rfl⟩
   ·exact fun j hj=>ha j (Nat.lt_of_lt_of_le hj kW.size)
   ·have k1:Keep (fun j=>tPush (idxN l) (o j)) w w':=(Keep.none (S:=fun j=>tPush (idxN l) (o j)) kW).trans kk fun j _ hh=>Or.inr hh
    exact k1.trans k3 fun j hj hh=>by
     have:=ha j (Nat.lt_of_lt_of_le hj kW.size)
     rw [this] at hh
     exact Or.inl hh
 have sv4:∀{V:World},Keep None w V→∀{K:Option Addr→Nat→Nat→Prop},K h.ll.1 h.ll.2.1 h.ll.2.2→ldC V ((⟨b,0,none⟩:Addr).add 4) K:=fun hk K hK=>by
  rw [add_mk]
  exact ldC_of (x:=h.ll.1) (n:=h.ll.2.1) (c:=h.ll.2.2) ((hR.self.keep0 hk).cell 4) hK
 unfold Push3
 refine ⟨?_,?_⟩
 ·refine cl_of ok94 (indexP hfl) fun e w8 ⟨he,k8⟩=>⟨_,he,sv4 k8 rfl,sv4 k8 rfl,?_,?_⟩
  ·refine cl_of ok94 (indexP hfl) fun e w9 ⟨he,k9⟩=>⟨_,he,?_⟩
   have k89:=k8.then0 k9
   refine ⟨sv4 k89 rfl,sv4 k89 rfl,?_⟩
   rw [eix]
   refine (hR.keep0 k89).outAt hx fun a ha=>ldC_of (x:=x.1) (n:=x.2.1) (c:=x.2.2) ha ?_
   refine alc_at fun bb w10 hbb hB k10=>?_
   have k810:=k89.then0 k10
   refine ⟨ldC_of (x:=x.1) (n:=x.2.1) (c:=x.2.2) (k10.cell ha fun h=>h) rfl,sv4 k810 rfl,sv4 k810 rfl,?_⟩
   have:=fin w10 bb k810 hB
   rw [eix] at this
   exact this
  ·refine alc_at fun bb w13 hbb hB k13=>?_
   have k813:=k8.then0 k13
   refine ⟨sv4 k813 rfl,sv4 k813 rfl,?_⟩
   refine cl_of ok94 (indexP hfl) fun e w14 ⟨he,k14⟩=>⟨_,he,?_⟩
   have k814:=k813.then0 k14
   refine ⟨sv4 k814 rfl,sv4 k814 rfl,?_⟩
   rw [eix]
   refine (hR.keep0 k814).outAt hx fun a ha=>ldC_of (x:=x.1) (n:=x.2.1) (c:=x.2.2) ha ?_
   have:=fin w14 bb k814 (hB.keep0 k14)
   rw [eix] at this
   exact this
 ·refine alc_at fun bb w17 hbb hB k17=>?_
  refine ⟨sv4 k17 rfl,sv4 k17 rfl,?_⟩
  refine cl_of ok94 (indexP hfl) fun e w18 ⟨he,k18⟩=>⟨_,he,?_⟩
  have k178:=k17.then0 k18
  refine ⟨sv4 k178 rfl,sv4 k178 rfl,?_⟩
  refine cl_of ok94 (indexP hfl) fun e w19 ⟨he,k19⟩=>⟨_,he,?_⟩
  have k179:=k178.then0 k19
  refine ⟨sv4 k179 rfl,sv4 k179 rfl,?_⟩
  rw [eix]
  refine (hR.keep0 k179).outAt hx fun a ha=>ldC_of (x:=x.1) (n:=x.2.1) (c:=x.2.2) ha ?_
  have:=fin w19 bb k179 ((hB.keep0 k18).keep0 k19)
  rw [eix] at this
  exact this
end Go.Proofs.YtmhjehodfggleaaGreat.Eng

/- An Engine in memory: how a literal stands, a clause's other watched literal, a literal put. -/

set_option linter.unusedVariables false
set_option linter.unusedSimpArgs false
set_option linter.unusedSectionVars false
set_option maxRecDepth 100000
namespace Go.Proofs.YtmhjehodfggleaaGreat.Eng
open Go Go.Proofs.YtmhjehodfggleaaGreat.Vc Go.Proofs.YtmhjehodfggleaaGreat.T
open Go.Proofs.YtmhjehodfggleaaGreat.Apart (RdL own_rdl wrap_nat getE own_len take_snoc Sl sv New)
open Go.Proofs.YtmhjehodfggleaaGreat.Lits (fl fl_iff Ans ans_of formedP idx idx_range idx_inj indexP)
open Go.Proofs.YtmhjehodfggleaaGreat.Arn (Ar AR)
open Go.Proofs.YtmhjehodfggleaaGreat.Trail (TI Tr St valA levA reaA ownB Moved TLaid above upto freeA implA Open)
section
variable {ex:Nat→Prop} {w w':World} {b:Nat} {o:Nat→Int} {h:Hs} {S:ES}
theorem Rp.nv (hR:Rp ex w b o h S):S.nv≤1048576:=hR.tr.small.1
theorem Rp.trAt (hR:Rp ex w b o h S) {K:Option Addr→Prop} (hK:K (some ⟨h.T.t,0,none⟩)):nn (some ⟨b,0,none⟩) fun p=>ldP w (p.add 2) K:=
 nn_of (ldP_of (x:=some ⟨h.T.t,0,none⟩) (by rw [add_mk]; exact hR.self.cell 2) hK)
theorem Rp.val (hR:Rp ex w b o h S) {l:Int} (hl : -9223372036854775808≤l) {R:Ending→World→Prop} (hK:∀w',Keep None w w'→R (.returned (J8 (vl S l))) w'):cl Tryz.prog 72 [Pt h.T.t,I l] w R:=
 cl_of ok72 (hR.tr.value l hl) fun e w' ⟨he,k⟩=>by subst he; exact hK w' k
theorem other64 (hR:Rp ex w b o h S) {k:Nat} {d:Hd} (hd:S.H[k]?=some d) (l:Int) :
  Calls Tryz.prog 118 #[Pt (h.hb k),I l] w fun e w'=>e=.returned (I (other d l))∧w'=w:=by
 refine (V118_calls (some ⟨h.hb k,0,none⟩) l w (fun v w'=>v=I (other d l)∧w'=w) ?_).mono fun e w' ⟨v,he,hv,hk⟩=>⟨by rw [he,hv],hk⟩
 unfold V118
 obtain ⟨hB,_⟩:=hR.held k d hd
 have a0:∀{K:Addr→Prop},K ⟨h.hb k,2,none⟩→ixA (some ((⟨h.hb k,0,none⟩:Addr).add 2)) 2 0 1 K:=fun hK=>by
  rw [add_mk]; exact ixA_of (by decide) (by decide) hK
 have a1:∀{K:Addr→Prop},K ⟨h.hb k,3,none⟩→ixA (some ((⟨h.hb k,0,none⟩:Addr).add 2)) 2 1 1 K:=fun hK=>by
  rw [add_mk]; exact ixA_of (by decide) (by decide) hK
 refine nn_of (a0 (ldI_of (x:=d.e0) (hB.cell 2) ?_))
 refine pif_of (fun hq=>nn_of (a1 (ldI_of (x:=d.e1) (hB.cell 3) ⟨?_,rfl⟩))) fun hq=>nn_of (a0 (ldI_of (x:=d.e0) (hB.cell 2) ⟨?_,rfl⟩))
 ·have:d.e0=l:=by simpa using hq
  unfold other; rw [if_pos this]
 ·have:¬d.e0=l:=by simpa using hq
  unfold other; rw [if_neg this]
end
def putS (S:ES) (l r:Int):ES:={S with R:=S.R++[⟨l,S.L.length,r⟩]}
def tPutE (t:Int):Prop:=t=-1∨t=-3∨t=-4
theorem put48 {ex:Nat→Prop} {w:World} {b:Nat} {o:Nat→Int} {h:Hs} {S:ES} (hR:Rp ex w b o h S) {k:Nat} {d:Hd} (hd:S.H[k]?=some d) (hat:0≤d.at_) {l:Int} (hl : -9223372036854775808≤l) (hf:freeA S.nv S.R l=0) :
  Calls Tryz.prog 60 #[Pt b,I l,Pt (h.hb k)] w fun e w'=>e=.returned (.tuple #[])∧Nx tPutE ex w b o h (putS S l d.at_) w':=by
 refine (V60_calls (some ⟨b,0,none⟩) l (some ⟨h.hb k,0,none⟩) w (fun v w'=>v=.tuple #[]∧Nx tPutE ex w b o h (putS S l d.at_) w') ?_).mono fun e w' ⟨v,he,hv,hk⟩=>⟨by rw [he,hv],hk⟩
 unfold V60
 have kd:Keep None w w.drew:=(Keep.refl _ _).drew
 have hRd:=hR.keep0 kd
 have zd:w.drew.heap.size=w.heap.size:=rfl
 obtain ⟨hB,_⟩:=hRd.held k d hd
 have hsm:=hR.tr.small
 have hi0:implA S.nv S.R l d.at_=0:=by unfold implA; rw [if_pos hf,if_neg (by omega)]
 refine hRd.trAt (nn_of (ldI_of (x:=d.at_) (by rw [add_mk]; exact hB.cell 0) ?_))
 refine cl_of ok105 (hRd.tr.imply l d.at_ hl) fun e w1 ⟨he,k1,T',hmv,hT1⟩=>⟨_,he,?_⟩
 rw [hi0,if_pos rfl] at hT1
 have z1:=k1.size
 have kt1:Keep (fun j=>(fun t:Int=>t=-3) (o j)) w.drew w1:=k1.mono fun j _ hj=>hR.trO j hj
 have hself1:=blk_K (T:=fun t=>t=-3) hRd.self hR.selfO kt1 (by decide)
 have hoo1:=own_K (T:=fun t=>t=-3) hRd.oo hR.ooO kt1 (by decide)
 have hool:=own_len hR.oo
 rw [List.length_map] at hool
 refine nn_of (ldC_of (x:=h.oo.1) (n:=h.oo.2.1) (c:=h.oo.2.2) (by rw [add_mk]; exact hself1.cell 3) ?_)
 refine alc_at fun b10 w2 hb10 hB10 k2=>?_
 have z2:=k2.size
 refine app_of2 (e:=3) (sz:=1) (z:=I 0) (B:=8) Tryz.underlying49 (by kernel_rfl) rfl (by omega) (hoo1.keep0 k2) hB10.news1 (fun u hu=>?_) (by simp only [maxLen]; omega) (by omega) fun p' c' w3 hO3 hd3=>?_
 ·simp only [List.mem_singleton] at hu; subst hu; rfl
 have kt3:Keep (fun j=>(fun t:Int=>t=-4) (o j)) w2 w3:=by
  rcases hd3 with ⟨_,_,_,kk⟩ | ⟨_,kk⟩
  ·exact kk.mono fun j _ hj=>hR.ooO j hj
  ·exact kk.none
 have z3:=kt3.size
 have hself3:=blk_K (T:=fun t=>t=-4) (hself1.keep0 k2) hR.selfO kt3 (by decide)
 have hbl:b<w.heap.size:=hR.self.lt
 refine nn_of ?_
 rw [add_mk,add_mk]
 refine st_of hself3 (by simp) rfl fun w4 hself4 k4 z4=>⟨rfl,?_⟩
 have kall:Keep (fun j=>tPutE (o j)) w w4:=((((kd.none (S:=fun j=>tPutE (o j))).trans kt1 fun j _ hh=>Or.inr (Or.inl hh)).then0 k2).trans kt3 fun j _ hh=>Or.inr (Or.inr hh)).trans k4 fun j _ hh=>by
  have hj:j=b:=hh
  show tPutE (o j)
  rw [hj,hR.selfO]; exact Or.inl rfl
 have pcase:∀j,ob p' j→(j<w.heap.size∧o j=-4)∨w2.heap.size≤j:=fun j hj=>by
  rcases hd3 with ⟨e,_,_,_⟩ | ⟨e,_⟩
  ·rw [e] at hj; exact Or.inl ⟨hR.oo.lt j hj,hR.ooO j hj⟩
  ·exact Or.inr (e j hj)
 have hF:∀j,T'.F j→(j<w.heap.size∧o j=-3)∨(w.heap.size≤j∧j<w1.heap.size):=fun j hj=>by
  rcases hmv.2 j hj with h1 | h1
  ·exact Or.inl ⟨hR.tr.lt j h1,hR.trO j h1⟩
  ·exact Or.inr ⟨by omega,hT1.lt j hj⟩
 have hO4:Own w4 3 1 p' (h.oo.2.1+1) c' (((putS S l d.at_).R.map fun e:E=>e.lit).map I):=by
  have e1:((putS S l d.at_).R.map fun e:E=>e.lit).map I=(S.R.map fun e=>e.lit).map I++[I l]:=by simp [putS]
  rw [e1]
  refine hO3.keep k4 fun j hj hh=>?_
  have hjb:j=b:=hh
  rcases pcase j hj with h1 | h1
  ·rw [hjb,hR.selfO] at h1; exact absurd h1.2 (by decide)
  ·omega
 have hT4:Tr S.nv w4 T' (S.R++[⟨l,S.L.length,d.at_⟩]) S.L:=by
  refine ((hT1.keep0 k2).keep kt3 fun j hj hh=>?_).keep k4 fun j hj hh=>?_
  ·have hh':o j=-4:=hh
   rcases hF j hj with h1 | h1
   ·rw [h1.2] at hh'; exact absurd hh' (by decide)
   ·rw [hR.nrm j h1.1] at hh'; exact absurd hh' (by decide)
  ·have hjb:j=b:=hh
   rcases hF j hj with h1 | h1
   ·rw [hjb,hR.selfO] at h1; exact absurd h1.2 (by decide)
   ·omega
 have eT:T'.t=h.T.t:=hmv.1
 -- the new tags
 have lo:∀{j:Nat},o j≠-9→j<w.heap.size:=fun {j} hj=>by
  apply Classical.byContradiction
  intro hn
  exact hj (hR.nrm j (by omega))
 have nT:∀{t:Int},t≠-1→t≠-3→t≠-4→¬tPutE t:=fun a b c hh=>by rcases hh with h | h | h; exact a h; exact b h; exact c h
 let o':Nat→Int:=fun j=>if j<w.heap.size then o j else if j<w1.heap.size then -3 else if j<w4.heap.size then -4 else -9
 have e0:∀{j:Nat} {t:Int},t≠-9→o j=t→o' j=t:=fun {j} {t} hne hj=>by
  show (if j<w.heap.size then o j else _)=t
  rw [if_pos (lo (by rw [hj]; exact hne))]; exact hj
 have hself4':Blk w4 b [I (putS S l d.at_).nv,Pt h.st,Pt T'.t,sv (p',h.oo.2.1+1,c'),sv h.ll,sv h.ss,sv h.le,.iface 98 (Pt h.bk),I S.head,.bool S.rest,.bool S.clash,.bool S.dead,I S.bad] 106:=by
  rw [eT]; exact hself4
 have har:=hR.arK (T:=tPutE) kall (nT (by decide) (by decide) (by decide))
 have hgl:=hR.glK (T:=tPutE) kall (nT (by decide) (by decide) (by decide))
 have hhd:=hR.heldK (T:=tPutE) kall (nT (by decide) (by decide) (by decide)) (nT (by decide) (by decide) (by decide))
 refine ⟨o',{h with T:=T',oo:=(p',h.oo.2.1+1,c')},⟨hself4',e0 (by decide) hR.selfO,ar_grow har (fun i hi=>⟨e0 (by decide) hi.1,hi.2⟩) (fun i hi=>hi.2),hT4,fun j hj=>?_,hO4,fun j hj=>?_,
  own_K (T:=tPutE) hR.out hR.outO kall (nT (by decide) (by decide) (by decide)),fun j hj=>e0 (by decide) (hR.outO j hj),hR.hhl,hR.lsl,
  hR.innK (T:=tPutE) kall (fun i hi=>⟨hi,nT (by omega) (by omega) (by omega)⟩),fun i x hx j hj=>⟨e0 (by omega) (hR.innOK (T:=tPutE) kall i x hx j hj).1,(hR.innOK (T:=tPutE) kall i x hx j hj).2⟩,
  own_K (T:=tPutE) hR.sh hR.shO kall (nT (by decide) (by decide) (by decide)),fun j hj=>e0 (by decide) (hR.shO j hj),own_K (T:=tPutE) hR.le hR.leO kall (nT (by decide) (by decide) (by decide)),fun j hj=>e0 (by decide) (hR.leO j hj),
  blk_K (T:=tPutE) hR.bk hR.bkO kall (nT (by decide) (by decide) (by decide)),e0 (by decide) hR.bkO,own_K (T:=tPutE) hR.lg hR.lgO kall (nT (by decide) (by decide) (by decide)),fun j hj=>e0 (by decide) (hR.lgO j hj),hR.gll,
  fun i x y hx hy=>⟨(hgl i x y hx hy).1,fun j hj=>⟨e0 (by decide) ((hgl i x y hx hy).2 j hj).1,((hgl i x y hx hy).2 j hj).2⟩⟩,
  fun i d' hd'=>by
   obtain ⟨h1,h2,h3,h4⟩:=hhd i d' hd'
   exact ⟨h1,e0 (by decide) h2,h3,fun j hj=>⟨e0 (by decide) (h4 j hj).1,(h4 j hj).2⟩⟩,hR.inj,fun j hj=>?_⟩,fun j hj=>if_pos hj,kall,rfl⟩
 ·show (if j<w.heap.size then o j else if j<w1.heap.size then -3 else if j<w4.heap.size then -4 else -9)=-3
  rcases hF j hj with h1 | h1
  ·rw [if_pos h1.1]; exact h1.2
  ·rw [if_neg (by omega),if_pos h1.2]
 ·show (if j<w.heap.size then o j else if j<w1.heap.size then -3 else if j<w4.heap.size then -4 else -9)=-4
  have:=hO4.lt j hj
  rcases pcase j hj with h1 | h1
  ·rw [if_pos h1.1]; exact h1.2
  ·rw [if_neg (by omega),if_neg (by omega),if_pos (by omega)]
 ·show (if j<w.heap.size then o j else if j<w1.heap.size then -3 else if j<w4.heap.size then -4 else -9)=-9
  rw [if_neg (by omega),if_neg (by omega),if_neg (by omega)]
end Go.Proofs.YtmhjehodfggleaaGreat.Eng
