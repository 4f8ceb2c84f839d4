/- depotlaw: SolveFew, SolveBudgets and SolveTight answer true for every input of bulk at most 1048576 and turn nothing that was there. -/
import Derived.Test.YtagkgfmddflodaaGreatQ5
import Derived.Test.YtagkgfmddflodaaGreatProg
set_option linter.unusedVariables false
set_option linter.unusedSimpArgs false
set_option linter.unusedSectionVars false
set_option maxRecDepth 100000
namespace Go.Proofs.YtagkgfmddflodaaGreat
namespace T
open Go Vc
def V12 (w:World) (R:qR):Prop:=
 cl Tryz.prog 23 [] w λe5 w1=>∃x3:Int,∃(x4:qA) (lQ sy:Nat),e5=Ending.returned (.agg #[qI x3,.slice x4 lQ sy])/\
 cl Tryz.prog 20 [] w1 λe12 w2=>∃x6:Int,∃x7:Int,∃x8:Int,∃x9:Nat,∃dR:Int,∃fh:Int,e12=Ending.returned (.agg #[qI x6,qI x7,qI x8,.float .f64 x9,qI dR,qI fh])/\
 cl Tryz.prog 14 [.agg #[qI x3,.slice x4 lQ sy],.agg #[qI x6,qI x7,qI x8,.float .f64 x9,qI dR,qI fh]] w2 λe18 w3=>∃eV:Int,∃(dV:qA) (fM gU:Nat),∃(eP:qA) (nK uH:Nat),∃fk:Int,∃fL:Int,e18=Ending.returned (.tuple #[.agg #[qI eV,.slice dV fM gU,.slice eP nK uH,qI fk],qI fL])/\
 cg w3 [qI 0,.slice none 0 0,.slice none 0 0,qI 0] 33 λEB w4=>
 st w4 ((⟨EB,0,none⟩:Addr).add 0) (qI eV) λw5=>
 st w5 ((⟨EB,0,none⟩:Addr).add 1) (.slice dV fM gU) λw6=>
 st w6 ((⟨EB,0,none⟩:Addr).add 2) (.slice eP nK uH) λw7=>
 st w7 ((⟨EB,0,none⟩:Addr).add 3) (qI fk) λw8=>
 cl Tryz.prog 35 [] w8 λe23 w9=>∃j5:Int,∃(iU:qA) (xL Ce:Nat),e23=Ending.returned (.agg #[qI j5,.slice iU xL Ce])/\
 cl Tryz.prog 20 [] w9 λUL cK=>∃iV:Int,∃iT:Int,∃jj:Int,∃iI:Nat,∃jN:Int,∃jo:Int,UL=Ending.returned (.agg #[qI iV,qI iT,qI jj,.float .f64 iI,qI jN,qI jo])/\
 cl Tryz.prog 14 [.agg #[qI j5,.slice iU xL Ce],.agg #[qI iV,qI iT,qI jj,.float .f64 iI,qI jN,qI jo]] cK λe36 dB=>∃uJ:Int,∃(ig:qA) (tZ xO:Nat),∃(rJ:qA) (UF UG:Nat),∃o_:Int,∃lZ:Int,e36=Ending.returned (.tuple #[.agg #[qI uJ,.slice ig tZ xO,.slice rJ UF UG,qI o_],qI lZ])/\
 cg dB [qI 0,.slice none 0 0,.slice none 0 0,qI 0] 33 λb37 dF=>
 st dF ((⟨b37,0,none⟩:Addr).add 0) (qI uJ) λeA=>
 st eA ((⟨b37,0,none⟩:Addr).add 1) (.slice ig tZ xO) λeG=>
 st eG ((⟨b37,0,none⟩:Addr).add 2) (.slice rJ UF UG) λgT=>
 st gT ((⟨b37,0,none⟩:Addr).add 3) (qI o_) λeM=>
 gd (α:=Int) (fL==0) (λTb=>
  aW .i64 eM ((⟨EB,0,none⟩:Addr).add 0) λDj=>
  Tb Dj eM) 0 eM λtY fe=>
 gd (α:=(qA×Nat×Nat)) (cond (fL==0) (tY==1) false) (λk42=>
  aZ fe ((⟨EB,0,none⟩:Addr).add 1) λpL He Hf=>
  k42 (pL,He,Hf) fe) (none,0,0) fe λj_ gB=>
 gd (α:=Int) (cond (cond (cond (fL==0) (tY==1) false) ((j_.2.1:Int)==2) false) (lZ==0) false) (λk45=>
  aW .i64 gB ((⟨b37,0,none⟩:Addr).add 0) λtX=>
  k45 tX gB) 0 gB λnA fV=>
 gd (α:=(qA×Nat×Nat)) (cond (cond (cond (cond (fL==0) (tY==1) false) ((j_.2.1:Int)==2) false) (lZ==0) false) (nA==2) false) (λk48=>
  aZ fV ((⟨b37,0,none⟩:Addr).add 2) λng uE uF=>
  k48 (ng,uE,uF) fV) (none,0,0) fV λvY nF=>
 R (.bool (cond (cond (cond (cond (cond (fL==0) (tY==1) false) ((j_.2.1:Int)==2) false) (lZ==0) false) (nA==2) false) (decide ((vY.2.1:Int)>0)) false)) nF
theorem NA (w R) (h:V12 w R):qE 12 #[] w R:=qv (.s .l (.s .l (.s .l (.s .l .l)))) Tryz.func12 (by kernel_rfl) (by kernel_rfl) h
theorem acg:br qQ 12:=by kernel_rfl
def V23 (w:World) (R:qR):Prop:=
 cg w [qI 0,.slice none 0 0] 24 λb2 w1=>
 cg w1 [qI 1,qI 2] 3 λb4 w2=>
 cg w2 [qI (-1)] 3 λb5 w3=>
 cg w3 [.slice (some (⟨b4,0,none⟩:Addr)) 2 2,.slice (some (⟨b5,0,none⟩:Addr)) 1 1] 59 λb6 w4=>
 st w4 ((⟨b2,0,none⟩:Addr).add 0) (qI 2) λw5=>
 st w5 ((⟨b2,0,none⟩:Addr).add 1) (.slice (some (⟨b6,0,none⟩:Addr)) 2 2) λw6=>
 aW .i64 w6 ((⟨b2,0,none⟩:Addr).add 0) λx7=>
 aZ w6 ((⟨b2,0,none⟩:Addr).add 1) λx8 Ca Cb=>
 R (.agg #[qI x7,.slice x8 Ca Cb]) w6
theorem NB (w R) (h:V23 w R):qE 23 #[] w R:=qv (.s .l (.s .l .l)) Tryz.func23 (by kernel_rfl) (by kernel_rfl) h
theorem amG:br qQ 23:=by kernel_rfl
def V35 (w:World) (R:qR):Prop:=
 cg w [qI 0,.slice none 0 0] 24 λb2 w1=>
 cg w1 [qI 1,qI 2] 3 λb4 w2=>
 cg w2 [qI (-1),qI 2] 3 λb5 w3=>
 cg w3 [qI 1,qI (-2)] 3 λb6 w4=>
 cg w4 [qI (-1),qI (-2)] 3 λb7 w5=>
 cg w5 [.slice (some (⟨b4,0,none⟩:Addr)) 2 2,.slice (some (⟨b5,0,none⟩:Addr)) 2 2,.slice (some (⟨b6,0,none⟩:Addr)) 2 2,.slice (some (⟨b7,0,none⟩:Addr)) 2 2] 59 λb8 w6=>
 st w6 ((⟨b2,0,none⟩:Addr).add 0) (qI 2) λw7=>
 st w7 ((⟨b2,0,none⟩:Addr).add 1) (.slice (some (⟨b8,0,none⟩:Addr)) 4 4) λw8=>
 aW .i64 w8 ((⟨b2,0,none⟩:Addr).add 0) λx9=>
 aZ w8 ((⟨b2,0,none⟩:Addr).add 1) λdR iS mO=>
 R (.agg #[qI x9,.slice dR iS mO]) w8
theorem NC (w R) (h:V35 w R):qE 35 #[] w R:=qv (.s .l (.s .l .l)) Tryz.func35 (by kernel_rfl) (by kernel_rfl) h
theorem amH:br qQ 35:=by kernel_rfl
def V13 (bM:Int) (bN:qA) (bE:Nat) (bG:Nat) (dZ:Int) (d_:Int) (gH:Int) (gI:Nat) (jf:Int) (jg:Int) (w:World) (R:qR):Prop:=
 cg w [qI bM,.slice bN bE bG] 24 λb2 w1=>
 cg w1 [qI dZ,qI d_,qI gH,.float .f64 gI,qI jf,qI jg] 27 λb3 w2=>
 cg w2 [qI 0,qI 0,qI 0,.float .f64 0,qI 0,qI 0] 27 λb4 w3=>
 jn (σ:=Unit) (λk5=>
  aW .i64 w3 ((⟨b2,0,none⟩:Addr).add 0) λx8=>
  gd (α:=Int) (decide (x8>20)) (λk9=>
   aW .i64 w3 ((⟨b3,0,none⟩:Addr).add 5) λdR=>
   k9 dR w3) 0 w3 λfh w5=>
  gd (α:=Int) ((decide (x8>20))&&(!(decide (fh<0)))) (λfF=>
   aW .i64 w5 ((⟨b3,0,none⟩:Addr).add 5) λeV=>
   fF eV w5) 0 w5 λdV w6=>
  bC (cond (decide (x8>20)) (cond (decide (fh<0)) true (decide (dV>500))) false) (
   st w6 (((⟨b3,0,none⟩:Addr).add 5).add 0) (qI 500) λw7=>
   k5 (()) w7) (
   k5 (()) w6)) λs6 w4=>match s6 with
 | (_)=>
 aW .i64 w4 ((⟨b3,0,none⟩:Addr).add 0) λfL=>
 aW .i64 w4 ((⟨b3,0,none⟩:Addr).add 1) λgh=>
 aW .i64 w4 ((⟨b3,0,none⟩:Addr).add 2) λic=>
 wR .f64 w4 ((⟨b3,0,none⟩:Addr).add 3) λeX=>
 aW .i64 w4 ((⟨b3,0,none⟩:Addr).add 4) λj5=>
 aW .i64 w4 ((⟨b3,0,none⟩:Addr).add 5) λiU=>
 st w4 ((⟨b4,0,none⟩:Addr).add 0) (qI fL) λw8=>
 st w8 ((⟨b4,0,none⟩:Addr).add 1) (qI gh) λw9=>
 st w9 ((⟨b4,0,none⟩:Addr).add 2) (qI ic) λcK=>
 st cK ((⟨b4,0,none⟩:Addr).add 3) (.float .f64 eX) λdB=>
 st dB ((⟨b4,0,none⟩:Addr).add 4) (qI j5) λdF=>
 st dF ((⟨b4,0,none⟩:Addr).add 5) (qI iU) λeA=>
 aW .i64 eA ((⟨b4,0,none⟩:Addr).add 0) λlR=>
 aW .i64 eA ((⟨b4,0,none⟩:Addr).add 1) λiV=>
 aW .i64 eA ((⟨b4,0,none⟩:Addr).add 2) λiT=>
 wR .f64 eA ((⟨b4,0,none⟩:Addr).add 3) λjj=>
 aW .i64 eA ((⟨b4,0,none⟩:Addr).add 4) λiI=>
 aW .i64 eA ((⟨b4,0,none⟩:Addr).add 5) λjN=>
 R (.agg #[qI lR,qI iV,qI iT,.float .f64 jj,qI iI,qI jN]) eA
theorem ND (bM bN bE bG dZ d_ gH gI jf jg w R) (h:V13 bM bN bE bG dZ d_ gH gI jf jg w R):qE 13 #[.agg #[qI bM,.slice bN bE bG],.agg #[qI dZ,qI d_,qI gH,.float .f64 gI,qI jf,qI jg]] w R:=qv (.s .l (.s (.j [] (.s .l (.c .l .l))) (.s .l .l))) Tryz.func13 (by kernel_rfl) (by kernel_rfl) h
theorem ahr:br qQ 13:=by kernel_rfl
def V20 (w:World) (R:qR):Prop:=
 cg w [qI 0,qI 0,qI 0,.float .f64 0,qI 0,qI 0] 27 λb2 w1=>
 st w1 ((⟨b2,0,none⟩:Addr).add 0) (qI 100) λw2=>
 st w2 ((⟨b2,0,none⟩:Addr).add 1) (qI 2000) λw3=>
 st w3 ((⟨b2,0,none⟩:Addr).add 2) (qI 300) λw4=>
 st w4 ((⟨b2,0,none⟩:Addr).add 3) (.float .f64 4606732058837280358) λw5=>
 st w5 ((⟨b2,0,none⟩:Addr).add 4) (qI 3) λw6=>
 st w6 ((⟨b2,0,none⟩:Addr).add 5) (qI (-1)) λw7=>
 aW .i64 w7 ((⟨b2,0,none⟩:Addr).add 0) λx4=>
 aW .i64 w7 ((⟨b2,0,none⟩:Addr).add 1) λx5=>
 aW .i64 w7 ((⟨b2,0,none⟩:Addr).add 2) λx6=>
 wR .f64 w7 ((⟨b2,0,none⟩:Addr).add 3) λx7=>
 aW .i64 w7 ((⟨b2,0,none⟩:Addr).add 4) λx8=>
 aW .i64 w7 ((⟨b2,0,none⟩:Addr).add 5) λx9=>
 R (.agg #[qI x4,qI x5,qI x6,.float .f64 x7,qI x8,qI x9]) w7
theorem NF (w R) (h:V20 w R):qE 20 #[] w R:=qv (.s .l (.s .l .l)) Tryz.func20 (by kernel_rfl) (by kernel_rfl) h
theorem ach:br qQ 20:=by kernel_rfl
def V15 (bM:Int) (bN:qA) (bE:Nat) (bG:Nat) (dZ:Int) (d_:Int) (gH:Int) (gI:Nat) (jf:Int) (jg:Int) (w:World) (R:qR):Prop:=
 cg w [qI bM,.slice bN bE bG] 24 λb2 w1=>
 cg w1 [qI dZ,qI d_,qI gH,.float .f64 gI,qI jf,qI jg] 27 λb3 w2=>
 aW .i64 w2 ((⟨b2,0,none⟩:Addr).add 0) λx5=>
 aZ w2 ((⟨b2,0,none⟩:Addr).add 1) λx6 N9 SV=>
 qb 39 [.agg #[qI x5,.slice x6 N9 SV]] w2 λx7 w3=>
 gd (α:=(Int×Int×Int×Nat×Int×Int×Unit)) (!(!x7)) (λk9=>
  aW .i64 w3 ((⟨b3,0,none⟩:Addr).add 0) λdR=>
  aW .i64 w3 ((⟨b3,0,none⟩:Addr).add 1) λfh=>
  aW .i64 w3 ((⟨b3,0,none⟩:Addr).add 2) λdJ=>
  wR .f64 w3 ((⟨b3,0,none⟩:Addr).add 3) λeV=>
  aW .i64 w3 ((⟨b3,0,none⟩:Addr).add 4) λdV=>
  aW .i64 w3 ((⟨b3,0,none⟩:Addr).add 5) λeP=>
  k9 (dR,fh,dJ,eV,dV,eP,()) w3) (0,0,0,0,0,0,()) w3 λfk w4=>
 gd (α:=Bool) (!(!x7)) (λkz=>
  qb 40 [.agg #[qI fk.1,qI fk.2.1,qI fk.2.2.1,.float .f64 fk.2.2.2.1,qI fk.2.2.2.2.1,qI fk.2.2.2.2.2.1]] w4 λgh w5=>
  kz gh w5) false w4 λeX w6=>
 bC (cond (!x7) true (!eX)) (
  R (qI 1) w6) (
  R (qI 0) w6)
theorem NG (bM bN bE bG dZ d_ gH gI jf jg w R) (h:V15 bM bN bE bG dZ d_ gH gI jf jg w R):qE 15 #[.agg #[qI bM,.slice bN bE bG],.agg #[qI dZ,qI d_,qI gH,.float .f64 gI,qI jf,qI jg]] w R:=qv (.s .l (.s (.s .l (.c (.s .l .l) .l)) (.s .l .l))) Tryz.func15 (by kernel_rfl) (by kernel_rfl) h
theorem amI:br qQ 15:=by kernel_rfl
def V39 (bM:Int) (bN:qA) (bE:Nat) (bG:Nat) (w:World) (R:qR):Prop:=
 cg w [qI bM,.slice bN bE bG] 24 λb2 w1=>
 aW .i64 w1 ((⟨b2,0,none⟩:Addr).add 0) λx4=>
 gd (α:=Int) (!(decide (x4<0))) (λk5=>
  aW .i64 w1 ((⟨b2,0,none⟩:Addr).add 0) λx6=>
  k5 x6 w1) 0 w1 λx7 w2=>
 bC (cond (decide (x4<0)) true (decide (x7>1048576))) (
  R (.bool false) w2) (
  lp (σ:=Int×Unit) (λN8 w3 gF=>match N8 with
   | (v10,_)=>
   aZ w3 ((⟨b2,0,none⟩:Addr).add 1) λdV fM gU=>
   bC (decide (v10<(fM:Int))) (
    aZ w3.drew ((⟨b2,0,none⟩:Addr).add 1) λeP nK uH=>
    cr eP nK v10 1 λCc=>
    aZ w3.drew Cc λfL lY pJ=>
    aW .i64 w3.drew ((⟨b2,0,none⟩:Addr).add 0) λgh=>
    qb 80 [.slice fL lY pJ,qI gh] w3.drew λic w4=>
    bC (!ic) (
     R (.bool false) w4) (
     gF ((IntKind.wrap .i64 (v10+1)),()) w4)) (
    R (.bool true) w3)) (0,()) w2)
theorem NH (bM bN bE bG w R) (h:V39 bM bN bE bG w R):qE 39 #[.agg #[qI bM,.slice bN bE bG]] w R:=qv (.s .l (.s (.s .l (.c (.s .l .l) .l)) (.s (.s .l (.b (.o [(3,.one (.int .i64))] (.s (.s .l (.c .l .l)) (.s (.b (.s (.d [0,1,0,7,15,0,32,127,255]) (.c (.s .l .l) .l))) .l))))) (.s .l .l)))) Tryz.func39 (by kernel_rfl) (by kernel_rfl) h
theorem amJ:br qQ 39:=by kernel_rfl
def V80 (a0:qA) (bQ:Nat) (cF:Nat) (a1:Int) (w:World) (R:qR):Prop:=
 qb 119 [.slice a0 bQ cF] w λx3 w1=>
 bC (!x3) (
  R (.bool false) w1) (
  lp (σ:=Int×Unit) (λs9 w2 k8=>match s9 with
   | (v7,_)=>
   bC (decide (v7<(bQ:Int))) (
    cr a0 bQ v7 1 λsU=>
    aW .i64 w2 sU λeV=>
    gd (α:=Addr) (!(decide (eV>a1))) (λlq=>
     cr a0 bQ v7 1 λqs=>
     lq qs w2) ⟨0,0,none⟩ w2 λfk w3=>
    gd (α:=Int) (!(decide (eV>a1))) (λkz=>
     aW .i64 w3 fk λgh=>
     kz gh w3) 0 w3 λic w4=>
    bC (cond (decide (eV>a1)) true (decide ((IntKind.wrap .i64 (0 - ic))>a1))) (
     R (.bool false) w4) (
     k8 ((IntKind.wrap .i64 (v7+1)),()) w4)) (
    R (.bool true) w2)) (0,()) w1)
theorem NJ (a0 bQ cF a1 w R) (h:V80 a0 bQ cF a1 w R):qE 80 #[.slice a0 bQ cF,qI a1] w R:=qv (.s .l (.s (.s .l (.c (.s .l .l) .l)) (.s (.s .l (.b (.o [(5,.one (.int .i64))] (.s (.s .l (.c .l .l)) (.s (.b (.s .l (.c (.s .l .l) .l))) .l))))) (.s .l .l)))) Tryz.func80 (by kernel_rfl) (by kernel_rfl) h
theorem amK:br qQ 80:=by kernel_rfl
def ahs (a0:qA) (bQ:Nat) (cF:Nat) (w:World) (R:qR):Prop:=
 lp (σ:=Int×Unit) (λs5 w1 k4=>match s5 with
  | (v3,_)=>
  bC (decide (v3<(bQ:Int))) (
   cr a0 bQ v3 1 λp8=>
   aW .i64 w1 p8 λx9=>
   qb 150 [qI x9] w1 λdR w2=>
   bC (!dR) (
    R (.bool false) w2) (
    k4 ((IntKind.wrap .i64 (v3+1)),()) w2)) (
   R (.bool true) w1)) (0,()) w
theorem Jk (a0 bQ cF w R) (h:ahs a0 bQ cF w R):qE 119 #[.slice a0 bQ cF] w R:=qv (.s .l (.s (.s .l (.b (.o [(3,.one (.int .i64))] (.s (.s .l (.c .l .l)) (.s (.b (.s .l (.c (.s .l .l) .l))) .l))))) (.s .l .l))) Tryz.func119 (by kernel_rfl) (by kernel_rfl) h
theorem aht:br qQ 119:=by kernel_rfl
def ahu (a0:Int) (w:World) (R:qR):Prop:=
 R (.bool (cond (cond (decide (a0 >= 1)) (decide (a0<=1048576)) false) true (cond (decide (a0 >= (-1048576))) (decide (a0<=(-1))) false))) w
theorem Jl (a0 w R) (h:ahu a0 w R):qE 150 #[qI a0] w R:=qv (.s .l (.s .l .l)) Tryz.func150 (by kernel_rfl) (by kernel_rfl) h
theorem ahv:br qQ 150:=by kernel_rfl
def V40 (bM:Int) (bN:Int) (gG:Int) (kF:Nat) (vq:Int) (vr:Int) (w:World) (R:qR):Prop:=
 cg w [qI bM,qI bN,qI gG,.float .f64 kF,qI vq,qI vr] 27 λb2 w1=>
 aW .i64 w1 ((⟨b2,0,none⟩:Addr).add 0) λx4=>
 gd (α:=Int) (!(decide (x4<1))) (λk5=>
  aW .i64 w1 ((⟨b2,0,none⟩:Addr).add 0) λx6=>
  k5 x6 w1) 0 w1 λx7 w2=>
 gd (α:=Int) (!(cond (decide (x4<1)) true (decide (x7>1048576)))) (λk8=>
  aW .i64 w2 ((⟨b2,0,none⟩:Addr).add 1) λx9=>
  k8 x9 w2) 0 w2 λdR w3=>
 gd (α:=Int) (!(cond (cond (decide (x4<1)) true (decide (x7>1048576))) true (decide (dR<1)))) (λgF=>
  aW .i64 w3 ((⟨b2,0,none⟩:Addr).add 1) λdJ=>
  gF dJ w3) 0 w3 λeV w4=>
 gd (α:=Int) (!(cond (cond (cond (decide (x4<1)) true (decide (x7>1048576))) true (decide (dR<1))) true (decide (eV>1048576)))) (λlq=>
  aW .i64 w4 ((⟨b2,0,none⟩:Addr).add 2) λeP=>
  lq eP w4) 0 w4 λfk w5=>
 gd (α:=Int) (!(cond (cond (cond (cond (decide (x4<1)) true (decide (x7>1048576))) true (decide (dR<1))) true (decide (eV>1048576))) true (decide (fk<1)))) (λkz=>
  aW .i64 w5 ((⟨b2,0,none⟩:Addr).add 2) λgh=>
  kz gh w5) 0 w5 λic w6=>
 bC (cond (cond (cond (cond (cond (decide (x4<1)) true (decide (x7>1048576))) true (decide (dR<1))) true (decide (eV>1048576))) true (decide (fk<1))) true (decide (ic>1048576))) (
  R (.bool false) w6) (
  wR .f64 w6 ((⟨b2,0,none⟩:Addr).add 3) λiU=>
  gd (α:=Nat) ((FloatKind.format .f64).order iU 4602678819172646912==some .gt || (FloatKind.format .f64).order iU 4602678819172646912==some .eq) (λuI=>
   wR .f64 w6 ((⟨b2,0,none⟩:Addr).add 3) λiV=>
   uI iV w6) 0 w6 λiT w7=>
  bC (!(cond ((FloatKind.format .f64).order iU 4602678819172646912==some .gt || (FloatKind.format .f64).order iU 4602678819172646912==some .eq) ((FloatKind.format .f64).order iT 4607182418800017408==some .lt || (FloatKind.format .f64).order iT 4607182418800017408==some .eq) false)) (
   R (.bool false) w7) (
   aW .i64 w7 ((⟨b2,0,none⟩:Addr).add 4) λjN=>
   gd (α:=Int) (!(jN==1)) (λZK=>
    aW .i64 w7 ((⟨b2,0,none⟩:Addr).add 4) λm_=>
    ZK m_ w7) 0 w7 λuJ w8=>
   gd (α:=Int) (!(cond (jN==1) true (uJ==2))) (λL5=>
    aW .i64 w8 ((⟨b2,0,none⟩:Addr).add 4) λrJ=>
    L5 rJ w8) 0 w8 λo_ w9=>
   R (.bool (cond (cond (jN==1) true (uJ==2)) true (o_==3))) w9))
theorem NK (bM bN gG kF vq vr w R) (h:V40 bM bN gG kF vq vr w R):qE 40 #[.agg #[qI bM,qI bN,qI gG,.float .f64 kF,qI vq,qI vr]] w R:=qv (.s .l (.s (.s .l (.c (.s .l .l) .l)) (.s (.s .l (.c (.s .l .l) .l)) (.s .l .l)))) Tryz.func40 (by kernel_rfl) (by kernel_rfl) h
theorem amL:br qQ 40:=by kernel_rfl
def V16 (bM:Int) (bN:qA) (bE:Nat) (bG:Nat) (gG:qA) (i_:Nat) (ja:Nat) (kF:Int) (dZ:Int) (d_:qA) (iY:Nat) (iZ:Nat) (gH:qA) (KW:Nat) (KX:Nat) (gI:Int) (w:World) (R:qR):Prop:=
 cg w [qI bM,.slice bN bE bG,.slice gG i_ ja,qI kF] 33 λb2 w1=>
 cg w1 [qI dZ,.slice d_ iY iZ,.slice gH KW KX,qI gI] 33 λb3 w2=>
 qL w2 b2 0 λx5=>
 qL w2 b3 0 λx6=>
 gd (α:=Int) (x5==x6) (λk7=>
  qL w2 b2 3 λx8=>
  k7 x8 w2) 0 w2 λx9 w3=>
 gd (α:=Int) (x5==x6) (λfD=>
  qL w3 b3 3 λfh=>
  fD fh w3) 0 w3 λdJ w4=>
 gd (α:=(qA×Nat×Nat)) (cond (x5==x6) (x9==dJ) false) (λgQ=>
  qC w4 b2 1 λdV fM gU=>
  gQ (dV,fM,gU) w4) (none,0,0) w4 λeP w5=>
 gd (α:=(qA×Nat×Nat)) (cond (x5==x6) (x9==dJ) false) (λsJ=>
  qC w5 b3 1 λfL lY pJ=>
  sJ (fL,lY,pJ) w5) (none,0,0) w5 λgh w6=>
 gd (α:=Bool) (cond (x5==x6) (x9==dJ) false) (λta=>
  qb 29 [.slice eP.1 eP.2.1 eP.2.2,.slice gh.1 gh.2.1 gh.2.2] w6 λeX w7=>
  ta eX w7) false w6 λiU w8=>
 gd (α:=(qA×Nat×Nat)) (cond (cond (x5==x6) (x9==dJ) false) iU false) (λuI=>
  qC w8 b2 2 λiV xP zf=>
  uI (iV,xP,zf) w8) (none,0,0) w8 λiT w9=>
 gd (α:=(qA×Nat×Nat)) (cond (cond (x5==x6) (x9==dJ) false) iU false) (λuW=>
  qC w9 b3 2 λiI ir jB=>
  uW (iI,ir,jB) w9) (none,0,0) w9 λjN cK=>
 gd (α:=Bool) (cond (cond (x5==x6) (x9==dJ) false) iU false) (λZK=>
  qb 41 [.slice iT.1 iT.2.1 iT.2.2,.slice jN.1 jN.2.1 jN.2.2] cK λm_ dB=>
  ZK m_ dB) false cK λig dF=>
 R (.bool (cond (cond (cond (x5==x6) (x9==dJ) false) iU false) ig false)) dF
theorem NL (bM bN bE bG gG i_ ja kF dZ d_ iY iZ gH KW KX gI w R) (h:V16 bM bN bE bG gG i_ ja kF dZ d_ iY iZ gH KW KX gI w R):qE 16 #[.agg #[qI bM,.slice bN bE bG,.slice gG i_ ja,qI kF],.agg #[qI dZ,.slice d_ iY iZ,.slice gH KW KX,qI gI]] w R:=qv (.s .l (.s .l .l)) Tryz.func16 (by kernel_rfl) (by kernel_rfl) h
theorem aci:br qQ 16:=by kernel_rfl
def V29 (a0:qA) (bQ:Nat) (cF:Nat) (a1:qA) (dW:Nat) (fU:Nat) (w:World) (R:qR):Prop:=
 bC ((bQ:Int) != (dW:Int)) (
  R (.bool false) w) (
  lp (σ:=Int×Unit) (λs7 w1 k6=>match s7 with
   | (v5,_)=>
   bC (decide (v5<(bQ:Int))) (
    cr a0 bQ v5 1 λp9=>
    Aj w1.drew p9 λdR=>
    cr a1 dW v5 1 λrF=>
    Aj w1.drew rF λdJ=>
    bC (!(dR==dJ)) (
     R (.bool false) w1.drew) (
     k6 ((IntKind.wrap .i64 (v5+1)),()) w1.drew)) (
    R (.bool true) w1)) (0,()) w)
theorem NM (a0 bQ cF a1 dW fU w R) (h:V29 a0 bQ cF a1 dW fU w R):qE 29 #[.slice a0 bQ cF,.slice a1 dW fU] w R:=qv (.s .l (.s (.s .l (.c (.s .l .l) .l)) (.s (.s .l (.b (.o [(5,.one (.int .i64))] (.s (.s .l (.c .l .l)) (.s (.b (.s (.d [0,0,3,7,0,0,48,112,255]) (.c (.s .l .l) .l))) .l))))) (.s .l .l)))) Tryz.func29 (by kernel_rfl) (by kernel_rfl) h
theorem amM:br qQ 29:=by kernel_rfl
def V41 (a0:qA) (bQ:Nat) (cF:Nat) (a1:qA) (dW:Nat) (fU:Nat) (w:World) (R:qR):Prop:=
 bC ((bQ:Int) != (dW:Int)) (
  R (.bool false) w) (
  lp (σ:=Int×Unit) (λs7 w1 k6=>match s7 with
   | (v5,_)=>
   bC (decide (v5<(bQ:Int))) (
    cr a0 bQ v5 2 λp9=>
    Aj w1.drew (p9.add 0) λdR=>
    cr a1 dW v5 2 λrF=>
    Aj w1.drew (rF.add 0) λdJ=>
    gd (α:=Addr) (!(!(dR==dJ))) (λgQ=>
     cr a0 bQ v5 2 λCd=>
     gQ Cd w1.drew) ⟨0,0,none⟩ w1.drew λeP _=>
    gd (α:=(qA×Nat×Nat)) (!(!(dR==dJ))) (λsJ=>
     aZ w1.drew (eP.add 1) λfL lY pJ=>
     sJ (fL,lY,pJ) w1.drew) (none,0,0) w1.drew λgh _=>
    gd (α:=Addr) (!(!(dR==dJ))) (λta=>
     cr a1 dW v5 2 λJz=>
     ta Jz w1.drew) ⟨0,0,none⟩ w1.drew λj5 _=>
    gd (α:=(qA×Nat×Nat)) (!(!(dR==dJ))) (λEy=>
     aZ w1.drew (j5.add 1) λlR Az AA=>
     Ey (lR,Az,AA) w1.drew) (none,0,0) w1.drew λiV _=>
    gd (α:=Bool) (!(!(dR==dJ))) (λpK=>
     qb 81 [.slice gh.1 gh.2.1 gh.2.2,.slice iV.1 iV.2.1 iV.2.2] w1.drew λjj w2=>
     pK jj w2) false w1.drew λjN w3=>
    bC (cond (!(dR==dJ)) true (!jN)) (
     R (.bool false) w3) (
     k6 ((IntKind.wrap .i64 (v5+1)),()) w3)) (
    R (.bool true) w1)) (0,()) w)
theorem NN (a0 bQ cF a1 dW fU w R) (h:V41 a0 bQ cF a1 dW fU w R):qE 41 #[.slice a0 bQ cF,.slice a1 dW fU] w R:=qv (.s .l (.s (.s .l (.c (.s .l .l) .l)) (.s (.s .l (.b (.o [(5,.one (.int .i64))] (.s (.s .l (.c .l .l)) (.s (.b (.s (.d [0,0,3,7,15,0,0,96,224,480,1023,2047,4095,4095,16383,32767,65535,4095,4095,397311,921599,1970175,4194303,8388607,16777215]) (.c (.s .l .l) .l))) .l))))) (.s .l .l)))) Tryz.func41 (by kernel_rfl) (by kernel_rfl) h
theorem amN:br qQ 41:=by kernel_rfl
def V18 (bM:Int) (bN:qA) (bE:Nat) (bG:Nat) (gG:qA) (i_:Nat) (ja:Nat) (kF:Int) (a1:Int) (w:World) (R:qR):Prop:=
 cg w [qI bM,.slice bN bE bG,.slice gG i_ ja,qI kF] 33 λb2 w1=>
 cg w1 [qI 0,.slice none 0 0,.slice none 0 0,qI 0] 33 λb3 w2=>
 qL w2 b2 3 λx5=>
 bC (decide (x5>a1)) (
  qS w2 b3 0 (qI 3) λw3=>
  qS w3 b3 1 (.slice none 0 0) λw4=>
  qS w4 b3 2 (.slice none 0 0) λw5=>
  qS w5 b3 3 (qI a1) λw6=>
  qL w6 b3 0 λx7=>
  qC w6 b3 1 λx8 Ca Cb=>
  qC w6 b3 2 λx9 yg Bm=>
  qL w6 b3 3 λdR=>
  R (.agg #[qI x7,.slice x8 Ca Cb,.slice x9 yg Bm,qI dR]) w6) (
  qL w2 b2 0 λdJ=>
  qC w2 b2 1 λeV sB uy=>
  qC w2 b2 2 λdV fM gU=>
  qL w2 b2 3 λeP=>
  qS w2 b3 0 (qI dJ) λw7=>
  qS w7 b3 1 (.slice eV sB uy) λw8=>
  qS w8 b3 2 (.slice dV fM gU) λw9=>
  qS w9 b3 3 (qI eP) λcK=>
  qL cK b3 0 λfk=>
  qC cK b3 1 λfL lY pJ=>
  qC cK b3 2 λgh LZ Ct=>
  qL cK b3 3 λic=>
  R (.agg #[qI fk,.slice fL lY pJ,.slice gh LZ Ct,qI ic]) cK)
theorem NO (bM bN bE bG gG i_ ja kF a1 w R) (h:V18 bM bN bE bG gG i_ ja kF a1 w R):qE 18 #[.agg #[qI bM,.slice bN bE bG,.slice gG i_ ja,qI kF],qI a1] w R:=qv (.s .l (.s (.s .l (.c (.s .l .l) .l)) (.s .l .l))) Tryz.func18 (by kernel_rfl) (by kernel_rfl) h
theorem amO:br qQ 18:=by kernel_rfl
def V5 (bM:Int) (bN:qA) (bE:Nat) (bG:Nat) (dZ:Int) (d_:Int) (gH:Int) (gI:Nat) (jf:Int) (jg:Int) (a2:Int) (w:World) (R:qR):Prop:=
 cg w [qI bM,.slice bN bE bG] 24 λb2 w1=>
 cg w1 [qI dZ,qI d_,qI gH,.float .f64 gI,qI jf,qI jg] 27 λb3 w2=>
 qb 12 [] w2 λx5 w3=>
 bC (!x5) (
  R (.bool false) w3) (
  qL w3 b2 0 λx9=>
  gd (α:=Int) (!(decide (x9<0))) (λfD=>
   qL w3 b2 0 λfh=>
   fD fh w3) 0 w3 λdJ w4=>
  bC (cond (decide (x9<0)) true (decide (dJ>19))) (
   R (.bool true) w4) (
   lp (σ:=Int×Int×Unit) (λs19 w5 t_=>match s19 with
    | (JB,v17,_)=>
    qL w5 b2 0 λj5=>
    bC (decide (v17<j5)) (
     t_ ((IntKind.wrap .i64 (JB*9)),(IntKind.wrap .i64 (v17+1)),()) w5) (
     st w5 (((⟨b3,0,none⟩:Addr).add 5).add 0) (qI (-1)) λw6=>
     qL w6 b2 0 λjj=>
     qC w6 b2 1 λiI ir jB=>
     qL w6 b3 0 λjN=>
     qL w6 b3 1 λjo=>
     qL w6 b3 2 λm_=>
     qF w6 b3 3 λuJ=>
     qL w6 b3 4 λig=>
     qL w6 b3 5 λrJ=>
     cl Tryz.prog 14 [.agg #[qI jj,.slice iI ir jB],.agg #[qI jN,qI jo,qI m_,.float .f64 uJ,qI ig,qI rJ]] w6 λe39 w7=>∃o_:Int,∃(lZ:qA) (jk j9:Nat),∃(tW:qA) (lD lE:Nat),∃nh:Int,∃pg:Int,e39=Ending.returned (.tuple #[.agg #[qI o_,.slice lZ jk j9,.slice tW lD lE,qI nh],qI pg])/\
     cg w7 [qI 0,.slice none 0 0,.slice none 0 0,qI 0] 33 λrW w8=>
     qS w8 rW 0 (qI o_) λw9=>
     qS w9 rW 1 (.slice lZ jk j9) λcK=>
     qS cK rW 2 (.slice tW lD lE) λdB=>
     qS dB rW 3 (qI nh) λdF=>
     bC (pg != 0) (
      qL dF b2 0 λpL=>
      qC dF b2 1 λj_ gM iJ=>
      qL dF b3 0 λyq=>
      qL dF b3 1 λtX=>
      qL dF b3 2 λnA=>
      qF dF b3 3 λCC=>
      qL dF b3 4 λng=>
      qL dF b3 5 λvY=>
      qi 15 [.agg #[qI pL,.slice j_ gM iJ],.agg #[qI yq,qI tX,qI nA,.float .f64 CC,qI ng,qI vY]] dF λxM eA=>
      R (.bool (pg==xM)) eA) (
      qL dF rW 3 λvG=>
      gd (α:=Int) (!(decide (vG<0))) (λUI=>
       qL dF rW 3 λBt=>
       UI Bt dF) 0 dF λxe eG=>
      bC (cond (decide (vG<0)) true (decide (xe>JB))) (
       R (.bool false) eG) (
       st eG (((⟨b3,0,none⟩:Addr).add 5).add 0) (qI JB) λgT=>
       jn (σ:=Unit) (λk60=>
        bC (decide (a2>JB)) (
         st gT (((⟨b3,0,none⟩:Addr).add 5).add 0) (qI a2) λfe=>
         k60 (()) fe) (
         k60 (()) gT)) λs61 eM=>match s61 with
       | (_)=>
       qL eM b2 0 λBs=>
       qC eM b2 1 λv_ EE HP=>
       qL eM b3 0 λDk=>
       qL eM b3 1 λpU=>
       qL eM b3 2 λxS=>
       qF eM b3 3 λXE=>
       qL eM b3 4 λJO=>
       qL eM b3 5 λJU=>
       cl Tryz.prog 14 [.agg #[qI Bs,.slice v_ EE HP],.agg #[qI Dk,qI pU,qI xS,.float .f64 XE,qI JO,qI JU]] eM λe78 gB=>∃UU:Int,∃(Ql:qA) (Mz MA:Nat),∃(UM:qA) (UN UO:Nat),∃UP:Int,∃Qt:Int,e78=Ending.returned (.tuple #[.agg #[qI UU,.slice Ql Mz MA,.slice UM UN UO,qI UP],qI Qt])/\
       cg gB [qI 0,.slice none 0 0,.slice none 0 0,qI 0] 33 λOv fV=>
       qS fV Ov 0 (qI UU) λnF=>
       qS nF Ov 1 (.slice Ql Mz MA) λog=>
       qS og Ov 2 (.slice UM UN UO) λxh=>
       qS xh Ov 3 (qI UP) λmV=>
       gd (α:=Int) (Qt==0) (λk81=>
        qL mV Ov 0 λPx=>
        k81 Px mV) 0 mV λGa nG=>
       gd (α:=(Int×(qA×Nat×Nat)×(qA×Nat×Nat)×Int×Unit)) (cond (Qt==0) (Ga != 3) false) (λk84=>
        qL nG rW 0 λTg=>
        qC nG rW 1 λTh EJ EK=>
        qC nG rW 2 λXh abW abX=>
        qL nG rW 3 λDm=>
        k84 (Tg,(Th,EJ,EK),(Xh,abW,abX),Dm,()) nG) (0,(none,0,0),(none,0,0),0,()) nG λGc jq=>
       gd (α:=(Int×(qA×Nat×Nat)×(qA×Nat×Nat)×Int×Unit)) (cond (Qt==0) (Ga != 3) false) (λk90=>
        qL jq Ov 0 λx91=>
        qC jq Ov 1 λXT acj ack=>
        qC jq Ov 2 λx93 acm acn=>
        qL jq Ov 3 λXi=>
        k90 (x91,(XT,acj,ack),(x93,acm,acn),Xi,()) jq) (0,(none,0,0),(none,0,0),0,()) jq λNP za=>
       gd (α:=Bool) (cond (Qt==0) (Ga != 3) false) (λk96=>
        qb 16 [.agg #[qI Gc.1,.slice Gc.2.1.1 Gc.2.1.2.1 Gc.2.1.2.2,.slice Gc.2.2.1.1 Gc.2.2.1.2.1 Gc.2.2.1.2.2,qI Gc.2.2.2.1],.agg #[qI NP.1,.slice NP.2.1.1 NP.2.1.2.1 NP.2.1.2.2,.slice NP.2.2.1.1 NP.2.2.1.2.1 NP.2.2.1.2.2,qI NP.2.2.2.1]] za λVe Eo=>
        k96 Ve Eo) false za λMd JP=>
       R (.bool (cond (cond (Qt==0) (Ga != 3) false) Md false)) JP)))) (4,0,()) w4))
theorem Ss (bM bN bE bG dZ d_ gH gI jf jg a2 w R) (h:V5 bM bN bE bG dZ d_ gH gI jf jg a2 w R):qE 5 #[.agg #[qI bM,.slice bN bE bG],.agg #[qI dZ,qI d_,qI gH,.float .f64 gI,qI jf,qI jg],qI a2] w R:=qv (.s .l (.s (.s .l (.c (.s .l .l) .l)) (.s (.s .l (.c (.s .l .l) .l)) (.s .l (.s (.s .l (.b (.o [(7,.one (.int .i64)),(8,.one (.int .i64))] (.s (.s .l (.c .l .l)) (.s (.b .l) .l))))) (.s .l (.s .l (.s (.s .l (.c (.s .l .l) .l)) (.s (.s .l (.c (.s .l .l) .l)) (.s .l (.s (.j [] (.s .l (.c .l .l))) (.s .l (.s .l .l))))))))))))) Tryz.func5 (by kernel_rfl) (by kernel_rfl) h
def V4 (bM:Int) (bN:qA) (bE:Nat) (bG:Nat) (dZ:Int) (d_:Int) (gH:Int) (gI:Nat) (jf:Int) (jg:Int) (a2:Int) (w:World) (R:qR):Prop:=
 cg w [qI bM,.slice bN bE bG] 24 λb2 w1=>
 cg w1 [qI dZ,qI d_,qI gH,.float .f64 gI,qI jf,qI jg] 27 λb3 w2=>
 qb 12 [] w2 λx5 w3=>
 bC (!x5) (
  R (.bool false) w3) (
  st w3 (((⟨b3,0,none⟩:Addr).add 5).add 0) (qI (-1)) λw4=>
  qL w4 b2 0 λdR=>
  qC w4 b2 1 λfh vU xK=>
  qL w4 b3 0 λdJ=>
  qL w4 b3 1 λeV=>
  qL w4 b3 2 λdV=>
  qF w4 b3 3 λeP=>
  qL w4 b3 4 λfk=>
  qL w4 b3 5 λfL=>
  cl Tryz.prog 13 [.agg #[qI dR,.slice fh vU xK],.agg #[qI dJ,qI eV,qI dV,.float .f64 eP,qI fk,qI fL]] w4 λe24 w5=>∃gh:Int,∃ic:Int,∃eX:Int,∃j5:Nat,∃iU:Int,∃lR:Int,e24=Ending.returned (.agg #[qI gh,qI ic,qI eX,.float .f64 j5,qI iU,qI lR])/\
  qS w5 b3 0 (qI gh) λw6=>
  qS w6 b3 1 (qI ic) λw7=>
  qS w7 b3 2 (qI eX) λw8=>
  qS w8 b3 3 (.float .f64 j5) λw9=>
  qS w9 b3 4 (qI iU) λcK=>
  qS cK b3 5 (qI lR) λdB=>
  qL dB b2 0 λjj=>
  qC dB b2 1 λiI ir jB=>
  qL dB b3 0 λjN=>
  qL dB b3 1 λjo=>
  qL dB b3 2 λm_=>
  qF dB b3 3 λuJ=>
  qL dB b3 4 λig=>
  qL dB b3 5 λrJ=>
  cl Tryz.prog 14 [.agg #[qI jj,.slice iI ir jB],.agg #[qI jN,qI jo,qI m_,.float .f64 uJ,qI ig,qI rJ]] dB λe39 dF=>∃o_:Int,∃(lZ:qA) (jk j9:Nat),∃(tW:qA) (lD lE:Nat),∃nh:Int,∃pg:Int,e39=Ending.returned (.tuple #[.agg #[qI o_,.slice lZ jk j9,.slice tW lD lE,qI nh],qI pg])/\
  cg dF [qI 0,.slice none 0 0,.slice none 0 0,qI 0] 33 λrW eA=>
  qS eA rW 0 (qI o_) λeG=>
  qS eG rW 1 (.slice lZ jk j9) λgT=>
  qS gT rW 2 (.slice tW lD lE) λeM=>
  qS eM rW 3 (qI nh) λfe=>
  bC (pg != 0) (
   qL fe b2 0 λpL=>
   qC fe b2 1 λj_ gM iJ=>
   qL fe b3 0 λyq=>
   qL fe b3 1 λtX=>
   qL fe b3 2 λnA=>
   qF fe b3 3 λCC=>
   qL fe b3 4 λng=>
   qL fe b3 5 λvY=>
   qi 15 [.agg #[qI pL,.slice j_ gM iJ],.agg #[qI yq,qI tX,qI nA,.float .f64 CC,qI ng,qI vY]] fe λxM gB=>
   R (.bool (pg==xM)) gB) (
   qL fe rW 0 λvG=>
   bC (vG==3) (
    qL fe b3 5 λBt=>
    R (.bool (decide (Bt >= 0))) fe) (
    st fe (((⟨b3,0,none⟩:Addr).add 5).add 0) (qI a2) λfV=>
    qL fV b2 0 λxl=>
    qC fV b2 1 λvH Cx Cy=>
    qL fV b3 0 λHD=>
    qL fV b3 1 λzb=>
    qL fV b3 2 λOa=>
    qF fV b3 3 λDl=>
    qL fV b3 4 λBs=>
    qL fV b3 5 λv_=>
    cl Tryz.prog 14 [.agg #[qI xl,.slice vH Cx Cy],.agg #[qI HD,qI zb,qI Oa,.float .f64 Dl,qI Bs,qI v_]] fV λe72 nF=>∃Dk:Int,∃(pU:qA) (xQ xR:Nat),∃(xS:qA) (EC ED:Nat),∃XE:Int,∃JO:Int,e72=Ending.returned (.tuple #[.agg #[qI Dk,.slice pU xQ xR,.slice xS EC ED,qI XE],qI JO])/\
    cg nF [qI 0,.slice none 0 0,.slice none 0 0,qI 0] 33 λGs og=>
    qS og Gs 0 (qI Dk) λxh=>
    qS xh Gs 1 (.slice pU xQ xR) λmV=>
    qS mV Gs 2 (.slice xS EC ED) λnG=>
    qS nG Gs 3 (qI XE) λjq=>
    bC (JO != 0) (
     R (.bool false) jq) (
     bC (decide (a2<0)) (
      qL jq rW 0 λTc=>
      qC jq rW 1 λEF AN AO=>
      qC jq rW 2 λS_ Hx Hy=>
      qL jq rW 3 λUQ=>
      qL jq Gs 0 λPx=>
      qC jq Gs 1 λGa Qm Qn=>
      qC jq Gs 2 λx84 amP amQ=>
      qL jq Gs 3 λTg=>
      qb 16 [.agg #[qI Tc,.slice EF AN AO,.slice S_ Hx Hy,qI UQ],.agg #[qI Px,.slice Ga Qm Qn,.slice x84 amP amQ,qI Tg]] jq λTh za=>
      R (.bool Th) za) (
      qL jq.drew Gs 0 λDm=>
      qC jq.drew Gs 1 λGc Qu Qv=>
      qC jq.drew Gs 2 λx90 Mb Mc=>
      qL jq.drew Gs 3 λx91=>
      qL jq.drew rW 0 λXT=>
      qC jq.drew rW 1 λx93 acm acn=>
      qC jq.drew rW 2 λXi Py Ug=>
      qL jq.drew rW 3 λNP=>
      cl Tryz.prog 18 [.agg #[qI XT,.slice x93 acm acn,.slice Xi Py Ug,qI NP],qI a2] jq.drew λaaQ Eo=>∃ZN:Int,∃(Ve:qA) (Vf Vg:Nat),∃(ZO:qA) (Uh Ui:Nat),∃Md:Int,aaQ=Ending.returned (.agg #[qI ZN,.slice Ve Vf Vg,.slice ZO Uh Ui,qI Md])/\
      (
       qL Eo Gs 0 λZP=>
       qC Eo Gs 1 λPz PA Xj=>
       qC Eo Gs 2 λQK ET EU=>
       qL Eo Gs 3 λPB=>
       ((.agg #[qI ZP,.slice Pz PA Xj,.slice QK ET EU,qI PB]:Value)=.agg #[qI Dm,.slice Gc Qu Qv,.slice x90 Mb Mc,qI x91]))/\
      qb 16 [.agg #[qI Dm,.slice Gc Qu Qv,.slice x90 Mb Mc,qI x91],.agg #[qI ZN,.slice Ve Vf Vg,.slice ZO Uh Ui,qI Md]] Eo λQL JP=>
      R (.bool QL) JP)))))
theorem Su (bM bN bE bG dZ d_ gH gI jf jg a2 w R) (h:V4 bM bN bE bG dZ d_ gH gI jf jg a2 w R):qE 4 #[.agg #[qI bM,.slice bN bE bG],.agg #[qI dZ,qI d_,qI gH,.float .f64 gI,qI jf,qI jg],qI a2] w R:=qv (.s .l (.s (.s .l (.c (.s .l .l) .l)) (.s .l (.s .l (.s .l (.s (.s .l (.c (.s .l .l) .l)) (.s (.s .l (.c (.s .l .l) .l)) (.s .l (.s .l (.s (.s .l (.c (.s .l .l) .l)) (.s (.s .l (.c (.s .l .l) .l)) (.s (.d [0,0,0,6,15,31]) .l)))))))))))) Tryz.func4 (by kernel_rfl) (by kernel_rfl) h
end T
namespace Sv
open Go Vc T bp
open bt (cQ aL aA bg aO aB Sl sv LL)
theorem Sw (b f g:Int) (d:Nat) (p q:Int) (w:World) :
  Calls Tryz.prog 40 #[.agg #[.int .i64 b,.int .i64 f,.int .i64 g,.float .f64 d,.int .i64 p,.int .i64 q]] w
   λe w'=>e=.returned (.bool (cS.formed b f g d p))/\af aq w w':=by
 refine (NK b f g d p q w (λv w'=>v=.bool (cS.formed b f g d p)/\af aq w w') ?_).mono λe w' ⟨v,he,hv,hk⟩=>⟨by rw [he,hv],hk⟩
 unfold V40;simp only [cg];have hB:=b_.new w [.int .i64 b,.int .i64 f,.int .i64 g,.float .f64 d,.int .i64 p,.int .i64 q] 27;have hK:af aq w (w.alloc (.cells [.int .i64 b,.int .i64 f,.int .i64 g,.float .f64 d,.int .i64 p,.int .i64 q].toArray 27)):=(af.refl _ w).alloc _;generalize w.alloc (.cells [.int .i64 b,.int .i64 f,.int .i64 g,.float .f64 d,.int .i64 p,.int .i64 q].toArray 27)=w1 at hB hK;simp only [ag,Nat.zero_add];refine ah (hB.cell 0) ?_;refine iR b (λ_ K hk=>ah (hB.cell 0) hk) ?_;refine iR f (λ_ K hk=>ah (hB.cell 1) hk) ?_;refine iR f (λ_ K hk=>ah (hB.cell 1) hk) ?_;refine iR g (λ_ K hk=>ah (hB.cell 2) hk) ?_;refine iR g (λ_ K hk=>ah (hB.cell 2) hk) ?_;have hN:∀x:Int,cS.Aa x=true↔¬x<1/\¬x>1048576:=λx=>by simp only [cS.Aa,Bool.and_eq_true,decide_eq_true_eq]; omega
 by_cases hb:cS.Aa b=true;case neg=>
  refine aX ?_ ⟨by simp [cS.formed,hb],hK⟩;rw [hN] at hb;by_cases h1:b<1<;>by_cases h2:b>1048576<;>simp [h1,h2]<;>omega
 have lP:=(hN b).1 hb;by_cases hf:cS.Aa f=true;case neg=>
  refine aX ?_ ⟨by simp [cS.formed,hf],hK⟩;rw [hN] at hf;by_cases h1:f<1<;>by_cases h2:f>1048576<;>simp [h1,h2,lP.1,lP.2]<;>omega
 have GI:=(hN f).1 hf;by_cases hg:cS.Aa g=true;case neg=>
  refine aX ?_ ⟨by simp [cS.formed,hg],hK⟩;rw [hN] at hg;by_cases h1:g<1<;>by_cases h2:g>1048576<;>simp [h1,h2,lP.1,lP.2,GI.1,GI.2]<;>omega
 have hg':=(hN g).1 hg;refine aT (by simp [lP.1,lP.2,GI.1,GI.2,hg'.1,hg'.2]) ?_;refine dY (hB.cell 3) ?_;refine iR d (λ_ K hk=>dY (hB.cell 3) hk) ?_;have hX:((FloatKind.format .f64).order d 4602678819172646912==some .gt || (FloatKind.format .f64).order d 4602678819172646912==some .eq)=cS.C7 d:=rfl;have hY:((FloatKind.format .f64).order d 4607182418800017408==some .lt || (FloatKind.format .f64).order d 4607182418800017408==some .eq)=cS.KO d:=rfl;rw [hX];rcases Bool.eq_false_or_eq_true (cS.C7 d) with hx | hx
 case inr=>exact aX (by simp [hx]) ⟨by simp [cS.formed,hx],hK⟩
 simp only [hx,cond_true];rw [hY];rcases Bool.eq_false_or_eq_true (cS.KO d) with hy | hy
 case inr=>exact aX (by simp [hy]) ⟨by simp [cS.formed,hy],hK⟩
 refine aT (by simp [hy]) ?_;refine ah (hB.cell 4) ?_;refine iR p (λ_ K hk=>ah (hB.cell 4) hk) ?_;refine iR p (λ_ K hk=>ah (hB.cell 4) hk) ?_;refine ⟨?_,hK⟩;congr 1;simp only [cS.formed,hb,hf,hg,hx,hy,Bool.true_and];by_cases h1:p=1
 ·subst h1; rfl
 by_cases h2:p=2
 ·subst h2; rfl
 by_cases h3:p=3
 ·subst h3; rfl
 have e1:(decide (1<=p)&&decide (p<=3))=false:=by
  rw [Bool.and_eq_false_iff,decide_eq_false_iff_not,decide_eq_false_iff_not]; omega
 have f1:(p==1)=false:=by simpa using h1
 have f2:(p==2)=false:=by simpa using h2
 have f3:(p==3)=false:=by simpa using h3
 simp only [e1,f1,f2,f3,cond_true,cond_false,Bool.not_false,Bool.not_true]
theorem Sx (x:Int) (w:World):Calls Tryz.prog 150 #[I x] w λe w'=>e=.returned (.bool (decide (x≠0/\ -1048576<=x/\x<=1048576)))/\w'=w:=by
 refine (Jl x w (λv w'=>v=.bool (decide (x≠0/\ -1048576<=x/\x<=1048576))/\w'=w) ?_).mono λe w' ⟨v,he,hv,hk⟩=>⟨by rw [he,hv],hk⟩
 unfold ahu;refine ⟨?_,rfl⟩;congr 1;by_cases h:x≠0/\ -1048576<=x/\x<=1048576
 ·rw [decide_eq_true h];by_cases h1:x >= 1
  ·have h2:x<=1048576:=h.2.2;simp [h1,h2]
  ·have h2:x >= -1048576:=h.2.1;have h3:x<= -1:=by omega
   simp [h1,h2,h3]
 ·rw [decide_eq_false h];by_cases h1:x >= 1
  ·have h2:¬x<=1048576:=by omega
   have h3:¬x<= -1:=by omega
   simp [h1,h2,h3]
  ·by_cases h2:x >= -1048576
   ·have h3:¬x<= -1:=by omega
    simp [h1,h2,h3]
   ·simp [h1,h2]
theorem Sy {w:World} {p:Option Addr} {n c:Nat} {es:List Int} (hR:cQ w p n es) (hn:n<=17592186044416) :
  Calls Tryz.prog 119 #[.slice p n c] w λe w'=>∃r:Bool,e=.returned (.bool r)/\(r=true↔∀x∈es,x≠0/\ -1048576<=x/\x<=1048576)/\w'=w:=by
 refine (Jk p n c w (λv w'=>∃r:Bool,v=.bool r/\(r=true↔∀x∈es,x≠0/\ -1048576<=x/\x<=1048576)/\w'=w) ?_).mono λe w' ⟨v,he,r,hv,hk⟩=>⟨r,by rw [he,hv],hk⟩
 unfold ahs;have hl:=hR.len;refine bX (λs W=>∃i:Nat,s.1=i/\i<=n/\(∀x∈es.take i,x≠0/\ -1048576<=x/\x<=1048576)/\W=w) (λs _=>(n - s.1).toNat) ⟨0,rfl,Nat.zero_le _,(λx hx=>by cases hx),rfl⟩ ?_;rintro ⟨i',⟨⟩⟩ W ⟨i,rfl,hi,fA,rfl⟩;dsimp only;refine aF (λaM=>?_) λbL=>?_
 ·have aM:i<n:=by simpa using aM
  rw [aA i (by omega)];refine hR.ix aM λa x hx ha=>ah ha ?_;refine az ahv (Sx x W) λe w1 ⟨he,hw⟩=>⟨_,he,?_⟩
  subst hw;refine aF (λh=>?_) λh=>?_
  ·refine ⟨false,rfl,⟨λq=>(by cases q),λq=>?_⟩,rfl⟩;have:=q x (List.mem_of_getElem? hx);rw [decide_eq_true this] at h; cases h
  ·have jG:x≠0/\ -1048576<=x/\x<=1048576:=by
    apply Classical.byContradiction;intro dO;rw [decide_eq_false dO] at h; cases h
   refine ⟨⟨i+1,rfl,aM,λy hy=>?_,rfl⟩,by omega⟩;rw [aB hx] at hy;rcases List.mem_append.1 hy with hy | hy
   ·exact fA y hy
   ·simp only [List.mem_singleton] at hy; subst hy; exact jG
 ·have bL:i=n:=by simp at bL; omega
  subst bL;rw [<-hl,List.take_length] at fA;exact ⟨true,rfl,⟨λ_=>fA,λ_=>rfl⟩,rfl⟩
theorem SA {w:World} {p:Option Addr} {n c:Nat} {es:List Int} {nv:Int} (h0:0<=nv) (h1:nv<=1048576) (hR:cQ w p n es) (hn:n<=17592186044416) :
  Calls Tryz.prog 80 #[.slice p n c,I nv] w λe w'=>∃r:Bool,e=.returned (.bool r)/\(r=true↔∀x∈es,Wi nv.toNat x)/\w'=w:=by
 refine (NJ p n c nv w (λv w'=>∃r:Bool,v=.bool r/\(r=true↔∀x∈es,Wi nv.toNat x)/\w'=w) ?_).mono λe w' ⟨v,he,r,hv,hk⟩=>⟨r,by rw [he,hv],hk⟩
 unfold V80;have hl:=hR.len;refine az aht (Sy hR hn) λe w1 ⟨r,he,hr,hw⟩=>⟨r,he,?_⟩
 subst hw;cases r with
 | false=>
  refine aX rfl ⟨false,rfl,⟨λq=>(by cases q),λq=>?_⟩,rfl⟩;have:false=true:=hr.2 λx hx=>by obtain ⟨a,b,d⟩:=q x hx; exact ⟨a,by omega,by omega⟩
  cases this
 | true=>
  refine aT rfl ?_;have hs:=hr.1 rfl;refine bX (λs W=>∃i:Nat,s.1=i/\i<=n/\(∀x∈es.take i,Wi nv.toNat x)/\W=w1) (λs _=>(n - s.1).toNat) ⟨0,rfl,Nat.zero_le _,(λx hx=>by cases hx),rfl⟩ ?_;rintro ⟨i',⟨⟩⟩ W ⟨i,rfl,hi,fA,rfl⟩;dsimp only;refine aF (λaM=>?_) λbL=>?_
  ·have aM:i<n:=by simpa using aM
   rw [aA i (by omega)];refine hR.ix aM λa x hx ha=>ah ha ?_;have xI:=hs x (List.mem_of_getElem? hx);have ew:IntKind.wrap .i64 (0 - x)=-x:=by rw [IntKind.wrap_i64]; omega
   have fin:bC (cond (decide (x>nv)) true (decide ((IntKind.wrap .i64 (0 - x))>nv))) ((λ(v:Value) w'=>∃r:Bool,v=.bool r/\(r=true↔∀x∈es,Wi nv.toNat x)/\w'=W) (.bool false) W) ((∃k:Nat,((i+1:Nat):Int)=k/\k<=n/\(∀x∈es.take k,Wi nv.toNat x)/\W=W)/\(n - ((i+1:Nat):Int)).toNat<(n - (i:Int)).toNat):=by
    rw [ew];refine aF (λh=>?_) λh=>?_
    ·refine ⟨false,rfl,⟨λq=>(by cases q),λq=>?_⟩,rfl⟩;obtain ⟨a,b,d⟩:=q x (List.mem_of_getElem? hx);by_cases h2:x>nv
     ·omega
     ·by_cases h3 : -x>nv
      ·omega
      ·rw [decide_eq_false h2,decide_eq_false h3] at h; cases h
    ·refine ⟨⟨i+1,rfl,aM,λy hy=>?_,rfl⟩,by omega⟩;rw [aB hx] at hy;rcases List.mem_append.1 hy with hy | hy
     ·exact fA y hy
     ·simp only [List.mem_singleton] at hy; subst hy;by_cases h2:y>nv
      ·rw [decide_eq_true h2] at h; cases h
      ·by_cases h3 : -y>nv
       ·rw [decide_eq_false h2,decide_eq_true h3] at h; cases h
       ·exact ⟨xI.1,by omega,by omega⟩
   by_cases BM:x>nv
   ·have hd:(!(decide (x>nv)))=false:=by rw [decide_eq_true BM]; rfl
    refine a_ hd (a_ hd ?_);refine aX (by rw [decide_eq_true BM]; rfl) ?_;exact fin.1 (by rw [decide_eq_true BM]; rfl)
   ·have hd:(!(decide (x>nv)))=true:=by rw [decide_eq_false BM]; rfl
    refine aS hd (hR.ix aM λa2 x2 EN IA=>aS hd (ah IA ?_));rw [hx] at EN; injection EN with EN; subst EN;exact fin
  ·have bL:i=n:=by simp at bL; omega
   subst bL;rw [<-hl,List.take_length] at fA;exact ⟨true,rfl,⟨λ_=>fA,λ_=>rfl⟩,rfl⟩
theorem SB {B:Nat->Prop} {w:World} {nv:Int} {p:Option Addr} {n c:Nat} {av:List (List Int)} (hC:pP B w p n av) (hn:n<=1048576) (hl:∀es∈av,es.length<=1048576) :
  Calls Tryz.prog 39 #[.agg #[I nv,.slice p n c]] w λe w'=>∃r:Bool,e=.returned (.bool r)/\(r=true↔bD nv av)/\af aq w w':=by
 refine (NH nv p n c w (λv w'=>∃r:Bool,v=.bool r/\(r=true↔bD nv av)/\af aq w w') ?_).mono λe w' ⟨v,he,r,hv,hk⟩=>⟨r,by rw [he,hv],hk⟩
 unfold V39;have g_:=hC.len;refine aD λb2 w1 rN bH k1=>?_;have c0:∀{W:World},af aq w1 W->W.cell? ((⟨b2,0,none⟩:Addr).add 0)=some (I nv)/\W.cell? ((⟨b2,0,none⟩:Addr).add 1)=some (.slice p n c):=λhk=>by rw [ag,ag]; exact ⟨(bH.aa hk).cell 0,(bH.aa hk).cell 1⟩
 refine ah (c0 (af.refl _ _)).1 ?_;by_cases aM:nv<0
 ·have hd:decide (nv<0)=true:=decide_eq_true aM;rw [hd];exact a_ rfl (aX rfl ⟨false,rfl,⟨λq=>(by cases q),λq=>by obtain ⟨a,_⟩:=q; omega⟩,k1⟩)
 ·have hd:decide (nv<0)=false:=decide_eq_false aM;rw [hd];refine aS rfl (ah (c0 (af.refl _ _)).1 ?_);refine aF (λBM=>⟨false,rfl,⟨λq=>(by cases q),λq=>?_⟩,k1⟩) λhle=>?_
  ·obtain ⟨_,a,_⟩:=q;have:decide (nv>1048576)=false:=decide_eq_false (by omega);rw [this] at BM; cases BM
  have hle:nv<=1048576:=by
   apply Classical.byContradiction;intro dO;have:decide (nv>1048576)=true:=decide_eq_true (by omega);rw [this] at hle; cases hle
  refine bX (λs W=>∃i:Nat,s.1=i/\i<=n/\(∀es∈av.take i,∀x∈es,Wi nv.toNat x)/\af aq w1 W) (λs _=>(n - s.1).toNat) ⟨0,rfl,Nat.zero_le _,(λx hx=>by cases hx),af.refl _ _⟩ ?_;rintro ⟨i',⟨⟩⟩ W ⟨i,rfl,hi,fA,kW⟩;dsimp only;refine au (c0 kW).2 (aF (λaM=>?_) λbL=>?_)
  ·have aM:i<n:=by simpa using aM
   rw [aA i (by omega)];have kd:af aq W W.drew:=(af.refl aq W).drew;have Jm:=kW.ak kd;generalize W.drew=W1 at *
   obtain ⟨es,oH⟩:=bg (show i<av.length by omega);refine au (c0 Jm).2 ((hC.ax (k1.ak Jm) λ_ _ q=>q).ix oH λa q2 m2 c2 ha dm _ _=>au ha (ah (c0 Jm).1 ?_));have RB:=dm.len;have:=hl es (List.mem_of_getElem? oH);refine az amK (SA (by omega) hle dm (by omega)) λe w3 ⟨r,he,hr,hw⟩=>⟨r,he,?_⟩
   subst hw;cases r with
   | false=>
    refine aX rfl ⟨false,rfl,⟨λq=>(by cases q),λq=>?_⟩,k1.ak Jm⟩;have:=hr.2 (q.2.2 es (List.mem_of_getElem? oH));cases this
   | true=>
    refine aT rfl ⟨⟨i+1,rfl,aM,λy hy=>?_,Jm⟩,by omega⟩;rw [cm oH] at hy;rcases List.mem_append.1 hy with hy | hy
    ·exact fA y hy
    ·simp only [List.mem_singleton] at hy; subst hy; exact hr.1 rfl
  ·have bL:i=n:=by simp at bL; omega
   subst bL;rw [<-g_,List.take_length] at fA;exact ⟨true,rfl,⟨λ_=>⟨by omega,hle,fA⟩,λ_=>rfl⟩,k1.ak kW⟩
theorem NQ {B:Nat->Prop} {w:World} {nv:Int} {p:Option Addr} {n cp:Nat} {av:List (List Int)} (hC:pP B w p n av) (hn:n<=1048576) (hl:∀es∈av,es.length<=1048576) (c:kN) (dh:Int) :
  Calls Tryz.prog 15 #[.agg #[I nv,.slice p n cp],.agg #[I c.bs,I c.f,I c.g,.float .f64 c.d,I c.ph,I dh]] w λe w'=>∃r:Int,e=.returned (I r)/\((bD nv av/\cS.formed c.bs c.f c.g c.d c.ph=true)->r=0)/\(¬(bD nv av/\cS.formed c.bs c.f c.g c.d c.ph=true)->r=1)/\af aq w w':=by
 refine (NG nv p n cp c.bs c.f c.g c.d c.ph dh w (λv w'=>∃r:Int,v=I r/\((bD nv av/\cS.formed c.bs c.f c.g c.d c.ph=true)->r=0)/\(¬(bD nv av/\cS.formed c.bs c.f c.g c.d c.ph=true)->r=1)/\af aq w w') ?_).mono λe w' ⟨v,he,r,hv,hk⟩=>⟨r,by rw [he,hv],hk⟩
 unfold V15;refine aD λb2 w1 rN bH k1=>aD λb3 w2 R7 bP k2=>?_;have bH:=bH.aa k2;have uP:=k1.ak k2;refine ah (x:=nv) (by rw [ag]; exact bH.cell 0) (au (x:=p) (n:=n) (c:=cp) (by rw [ag]; exact bH.cell 1) ?_);refine az amJ (SB (hC.ax uP λ_ _ q=>q) hn hl) λe w3 ⟨r,he,hr,k3⟩=>⟨r,he,?_⟩
 have bP:=bP.aa k3;have oF:=uP.ak k3;cases r with
 | false=>
  have dO:¬bD nv av:=λq=>by have:=hr.2 q; cases this
  exact a_ rfl (a_ rfl (aX rfl ⟨1,rfl,λq=>absurd q.1 dO,λ_=>rfl,oF⟩))
 | true=>
  simp only [ag,Nat.zero_add];refine aS rfl (ah (bP.cell 0) (ah (bP.cell 1) (ah (bP.cell 2) (dY (bP.cell 3) (ah (bP.cell 4) (ah (bP.cell 5) ?_))))));refine aS rfl (az amL (Sw c.bs c.f c.g c.d c.ph dh w3) λe w4 ⟨he,k4⟩=>⟨_,he,?_⟩);cases hf:cS.formed c.bs c.f c.g c.d c.ph with
  | false=>exact aX rfl ⟨1,rfl,λq=>(by cases q.2),λ_=>rfl,oF.ak k4⟩
  | true=>exact aT rfl ⟨0,rfl,λ_=>rfl,λq=>absurd ⟨hr.1 rfl,rfl⟩ q,oF.ak k4⟩
end Sv
namespace Sv
open Go Vc T bp
open bt (cQ aL aA bg aO aB Sl sv LL)
structure Wu (w:World) (p:Option Addr) (n:Nat) (ss:List (Bool×List Int)):Prop where
 len:ss.length=n
 cell:∀(i:Nat) (x:Bool×List Int),ss[i]?=some x->∃a q m c,p=some a/\w.cell? ((a.add (i*2)).add 0)=some (.bool x.1)/\w.cell? ((a.add (i*2)).add 1)=some (.slice q m c)/\cQ w q m x.2/\x.2.length<=1048576
theorem Wu.aa {w w':World} {p:Option Addr} {n:Nat} {ss:List (Bool×List Int)} (h:Wu w p n ss) (hk:af aq w w'):Wu w' p n ss:=⟨h.len,λi x hx=>by
 obtain ⟨a,q,m,c,h0,h1,h2,h3,h4⟩:=h.cell i x hx;exact ⟨a,q,m,c,h0,hk.cell h1 λq=>q,hk.cell h2 λq=>q,h3.ax hk λ_ _ q=>q,h4⟩⟩
theorem FU:∀(l:List ((Bool×List Int)×Sl)) (k:Nat) (q:(Bool×List Int)×Sl),l[k]?=some q->(l.flatMap ef)[k*2]?=some (.bool q.1.1)/\(l.flatMap ef)[k*2+1]?=some (sv q.2)
 | [],k,q,h=>by simp at h
 | a :: l,0,q,h=>by
  simp only [List.getElem?_cons_zero,Option.some.injEq] at h;subst h; exact ⟨rfl,rfl⟩
 | a :: l,k+1,q,h=>by
  rw [List.getElem?_cons_succ] at h;have:=FU l k q h;rw [List.flatMap_cons];show (.bool a.1.1 :: sv a.2 :: l.flatMap ef)[(k+1)*2]?=_/\_;rw [show (k+1)*2=k*2+1+1 by omega];exact this
theorem PL.rdp {M:Nat->Prop} {w:World} {p:Option Addr} {n c:Nat} {gs:List Sl} {ss:List (Bool×List Int)} (h:PL M w p n c gs ss) (hl:∀x∈ss,x.2.length<=1048576):Wu w p n ss:=by
 have hn:=h.nn;refine ⟨hn.symm,λi x hx=>?_⟩;have aM:=(List.getElem?_eq_some_iff.1 hx).1;obtain ⟨y,hy⟩:=bg (show i<gs.length by rw [h.len]; exact aM);obtain ⟨f1,f2⟩:=FU (ss.zip gs) i (x,y) (by rw [List.getElem?_zip_eq_some]; exact ⟨hx,hy⟩);have ho:=h.own;rcases ho with ⟨_,h0,_,_⟩ | ⟨b,cs,rfl,hB,h1,_,h2,h3⟩
 ·omega
 ·rw [<-h3,List.getElem?_take] at f1 f2;rw [if_pos (by omega)] at f1 f2;refine ⟨_,y.1,y.2.1,y.2.2,rfl,?_,?_,aL (h.we i x y hx hy).1,hl x (List.mem_of_getElem? hx)⟩
  ·rw [ag,ag,hB.cell,Nat.zero_add,Nat.add_zero]; exact f1
  ·rw [ag,ag,hB.cell,Nat.zero_add]; exact f2
def Wv (w:World) (v:Value) (o:Ou):Prop:=∃p n d q m d',v=.agg #[I o.fin,.slice p n d,.slice q m d',I o.cf]/\Gm w p n o.model/\Wu w q m o.proof/\n<=1048576/\m<=4611686018427387903
theorem tD {w:World} {p q:Option Addr} {n m c d:Nat} {bs:List Bool} (hx:Gm w p n bs) (hy:Gm w q m bs) (hn:n<=1048576) :
  Calls Tryz.prog 29 #[.slice p n c,.slice q m d] w λe w'=>e=.returned (.bool true)/\af aq w w':=by
 refine (NM p n c q m d w (λv w'=>v=.bool true/\af aq w w') ?_).mono λe w' ⟨v,he,hv,hk⟩=>⟨by rw [he,hv],hk⟩
 unfold V29;have h1:=hx.len; have h2:=hy.len;refine aT (by rw [<-h1,<-h2]; simp) ?_;refine bX (λs W=>∃i:Nat,s.1=i/\i<=n/\af aq w W) (λs _=>(n - s.1).toNat) ⟨0,rfl,Nat.zero_le _,af.refl _ _⟩ ?_;rintro ⟨i',⟨⟩⟩ W ⟨i,rfl,hi,kW⟩;dsimp only;refine aF (λaM=>?_) λbL=>?_
 ·have aM:i<n:=by simpa using aM
  rw [aA i (by omega)];have kd:af aq W W.drew:=(af.refl aq W).drew;have Jm:=kW.ak kd;generalize W.drew=W1 at *
  refine (hx.aa Jm).ix aM λa x lU ha=>dX ha ?_;refine (hy.aa Jm).ix (by omega) λa2 y oy IA=>dX IA ?_;rw [lU] at oy; injection oy with oy; subst oy;exact aT (by simp) ⟨⟨i+1,rfl,aM,Jm⟩,by omega⟩
 ·exact ⟨rfl,kW⟩
theorem Wu.ix {w:World} {p:Option Addr} {n:Nat} {ss:List (Bool×List Int)} (h:Wu w p n ss) {i:Nat} (hi:i<n) {K:Addr->Prop} (hK:∀a x q m c,ss[i]?=some x->w.cell? (a.add 0)=some (.bool x.1)->w.cell? (a.add 1)=some (.slice q m c)->cQ w q m x.2->x.2.length<=1048576->K a):cr p n (i:Int) 2 K:=by
 obtain ⟨x,hx⟩:=bg (show i<ss.length by have:=h.len; omega);obtain ⟨a,q,m,c,rfl,h1,h2,h3,h4⟩:=h.cell i x hx;refine ⟨by omega,by omega,?_⟩;show K _;rw [Int.toNat_natCast];exact hK _ x q m c hx h1 h2 h3 h4
theorem ahw {w:World} {p q:Option Addr} {n m c d:Nat} {ss:List (Bool×List Int)} (hx:Wu w p n ss) (hy:Wu w q m ss) (hn:n<=4611686018427387903) :
  Calls Tryz.prog 41 #[.slice p n c,.slice q m d] w λe w'=>e=.returned (.bool true)/\af aq w w':=by
 refine (NN p n c q m d w (λv w'=>v=.bool true/\af aq w w') ?_).mono λe w' ⟨v,he,hv,hk⟩=>⟨by rw [he,hv],hk⟩
 unfold V41;have h1:=hx.len; have h2:=hy.len;refine aT (by rw [<-h1,<-h2]; simp) ?_;refine bX (λs W=>∃i:Nat,s.1=i/\i<=n/\af aq w W) (λs _=>(n - s.1).toNat) ⟨0,rfl,Nat.zero_le _,af.refl _ _⟩ ?_;rintro ⟨i',⟨⟩⟩ W ⟨i,rfl,hi,kW⟩;dsimp only;refine aF (λaM=>?_) λbL=>?_
 ·have aM:i<n:=by simpa using aM
  rw [aA i (by omega)];have kd:af aq W W.drew:=(af.refl aq W).drew;have Jm:=kW.ak kd;generalize W.drew=W1 at *
  refine (hx.aa Jm).ix aM λa x q1 m1 c1 lU ha _ _ _=>dX ha ?_;refine (hy.aa Jm).ix (by omega) λa2 y q2 m2 c2 oy IA _ _ _=>dX IA ?_;rw [lU] at oy; injection oy with oy; subst oy;have hb:(x.1==x.1)=true:=beq_self_eq_true _;rw [hb];refine aS rfl ((hx.aa Jm).ix aM λa x3 q1 m1 c1 hx3 _ ha3 oD hl3=>aS rfl (au ha3 ?_));refine aS rfl ((hy.aa Jm).ix (by omega) λa x4 q2 m2 c2 hx4 _ ha4 uR hl4=>aS rfl (au ha4 ?_));rw [hx3] at lU; injection lU with lU; subst lU;rw [hx3] at hx4; injection hx4 with hx4; subst hx4;refine aS rfl (az ai2 (bt.same oD uR (by have h9:=oD.len; show m1<=_; omega)) λe w3 ⟨he,k3⟩=>⟨_,he,?_⟩);rw [decide_eq_true rfl];exact aT rfl ⟨⟨i+1,rfl,aM,Jm.ak k3⟩,by omega⟩
 ·exact ⟨rfl,kW⟩
theorem Wv.aa {w w':World} {v:Value} {o:Ou} (h:Wv w v o) (hk:af aq w w'):Wv w' v o:=by
 obtain ⟨p,n,d,q,m,d',a,b,c,e,f⟩:=h;exact ⟨p,n,d,q,m,d',a,b.aa hk,c.aa hk,e,f⟩
theorem SC {w:World} {v u:Value} {o:Ou} (h:Wv w v o) (g:Wv w u o):Calls Tryz.prog 16 #[v,u] w λe w'=>e=.returned (.bool true)/\af aq w w':=by
 obtain ⟨p,n,d,q,m,d',rfl,hb,hp,hn,hm⟩:=h;obtain ⟨p',n',e',q',m',f',rfl,gb,gp,gn,gm⟩:=g;refine (NL o.fin p n d q m d' o.cf o.fin p' n' e' q' m' f' o.cf w (λv w'=>v=.bool true/\af aq w w') ?_).mono λe w' ⟨v,he,hv,hk⟩=>⟨by rw [he,hv],hk⟩
 unfold V16;refine aD λb2 w1 rN bH k1=>aD λb3 w2 R7 bP k2=>?_;have bH:=bH.aa k2;have uP:=k1.ak k2;simp only [ag,Nat.zero_add];have e1:(o.fin==o.fin)=true:=beq_self_eq_true _;have e2:(o.cf==o.cf)=true:=beq_self_eq_true _;refine ah (bH.cell 0) (ah (bP.cell 0) ?_);rw [e1];refine aS rfl (ah (bH.cell 3) (aS rfl (ah (bP.cell 3) ?_)));dsimp only;rw [e2];refine aS rfl (au (bH.cell 1) (aS rfl (au (bP.cell 1) ?_)));refine aS rfl (az amM (tD (hb.aa uP) (gb.aa uP) hn) λe w3 ⟨he,k3⟩=>⟨_,he,?_⟩);have bH:=bH.aa k3;have bP:=bP.aa k3;have oF:=uP.ak k3;refine aS rfl (au (bH.cell 2) (aS rfl (au (bP.cell 2) ?_)));refine aS rfl (az amN (ahw (hp.aa oF) (gp.aa oF) hm) λe w4 ⟨he,k4⟩=>⟨_,he,?_⟩);exact ⟨rfl,oF.ak k4⟩
theorem NR {w:World} {v:Value} {o:Ou} (h:Wv w v o) (b:Int):Calls Tryz.prog 18 #[v,I b] w λe w'=>∃u,e=.returned u/\Wv w' u (if o.cf>b then ⟨3,[],[],b⟩ else o)/\af aq w w':=by
 obtain ⟨p,n,d,q,m,d',rfl,hb,hp,hn,hm⟩:=h;refine (NO o.fin p n d q m d' o.cf b w (λu w'=>Wv w' u (if o.cf>b then ⟨3,[],[],b⟩ else o)/\af aq w w') ?_);unfold V18;refine aD λb2 w1 rN bH k1=>aD λb3 w2 R7 bP k2=>?_;have bH:=bH.aa k2;have uP:=k1.ak k2;have s1:=k1.size;refine ah (x:=o.cf) (by rw [ag]; exact bH.cell 3) (aF (λBM=>?_) λhle=>?_)
 ·have BM:o.cf>b:=by simpa using BM
  rw [if_pos BM];refine sN rfl bP λw3 bP k3=>oV bP ?_;exact ⟨⟨none,0,0,none,0,0,rfl,⟨rfl,λi x hx=>(by simp at hx)⟩,⟨rfl,λi x hx=>(by simp at hx)⟩,by omega,by omega⟩,uP.bw k3 (by omega)⟩
 ·have hle:¬o.cf>b:=by simpa using hle
  rw [if_neg hle];refine oV bH (sN rfl bP λw3 bP k3=>oV bP ?_);have oF:=uP.bw k3 (by omega);exact ⟨⟨p,n,d,q,m,d',rfl,hb.aa oF,hp.aa oF,hn,hm⟩,oF⟩
end Sv
namespace Sv
open Go Vc T bp
open bt (cQ aL aA bg aO aB Sl sv LL)
theorem Dc {c:kN} {av:List (List Int)} {nv:Nat} {o:Ou} {w w':World} {v:Value} (hE:Ny c av nv o) (h:uh w w' v o):Wv w' v o:=by
 obtain ⟨p,n,d,q,m,d',gs,rfl,g1,g2,g3,g4⟩:=h;have h1:=g1.len;rw [List.length_map,Nat.mul_one] at h1;have h2:=g3.nn;have:=hE.ml;have:=hE.pl;refine ⟨p,n,d,q,m,d',rfl,C0 g1,PL.rdp g3 λx hx=>?_,by omega,by omega⟩;by_cases hf:o.fin=2
 ·obtain ⟨l',L,el,hg,_⟩:=hE.prf hf;rw [el] at hx;rcases List.mem_append.1 hx with hx | hx
  ·exact (hg.lits.1 x hx).1
  ·simp only [List.mem_singleton] at hx; subst hx; exact Nat.zero_le _
 ·rw [hE.np hf] at hx; cases hx
theorem rX {Bl:Nat->Prop} {w:World} {nv:Int} {p:Option Addr} {n cp:Nat} {av:List (List Int)} (hC:pP Bl w p n av) (nj:∀j,Bl j->j<w.heap.size) (hn:n<=1048576) (hl:∀es∈av,es.length<=1048576) (c:kN)
  (hW:bD nv av->cS.formed c.bs c.f c.g c.d c.ph=true->∃P o,Wy c av nv.toNat P o) (sL : -9223372036854775808<=c.dh/\c.dh<=9223372036854775807)
  {K:Int->Option Addr->Nat->Nat->Option Addr->Nat->Nat->Int->Int->Nat->World->Prop}
  (abu:¬(bD nv av/\cS.formed c.bs c.f c.g c.d c.ph=true)->∀b W,w.heap.size<=b->af aq w W->b_ W b [I 0,.slice none 0 0,.slice none 0 0,I 0] 33->K 0 none 0 0 none 0 0 0 1 b W)
  (ahx:bD nv av->cS.formed c.bs c.f c.g c.d c.ph=true->∀o q m d q' m' d' b W,Ny c av nv.toNat o->uh w W (.agg #[I o.fin,.slice q m d,.slice q' m' d',I o.cf]) o->w.heap.size<=b->(∀i,(ob q i\/ob q' i)->i≠b)->af aq w W->b_ W b [I o.fin,.slice q m d,.slice q' m' d',I o.cf] 33->K o.fin q m d q' m' d' o.cf 0 b W) :
  cl Tryz.prog 14 [.agg #[I nv,.slice p n cp],.agg #[I c.bs,I c.f,I c.g,.float .f64 c.d,I c.ph,I c.dh]] w λe w1=>∃o_:Int,∃(lZ:Option Addr) (jk j9:Nat),∃(tW:Option Addr) (lD lE:Nat),∃nh:Int,∃pg:Int,e=Ending.returned (.tuple #[.agg #[.int .i64 o_,.slice lZ jk j9,.slice tW lD lE,.int .i64 nh],.int .i64 pg])/\
   cg w1 [.int .i64 0,.slice none 0 0,.slice none 0 0,.int .i64 0] 33 λb w2=>st w2 ((⟨b,0,none⟩:Addr).add 0) (.int .i64 o_) λw3=>st w3 ((⟨b,0,none⟩:Addr).add 1) (.slice lZ jk j9) λw4=>st w4 ((⟨b,0,none⟩:Addr).add 2) (.slice tW lD lE) λw5=>st w5 ((⟨b,0,none⟩:Addr).add 3) (.int .i64 nh) λw6=>K o_ lZ jk j9 tW lD lE nh pg b w6:=by
 refine az abV (Jj hC nj hn hl c hW sL) λe w1 ⟨v,he,hR⟩=>?_;rcases hR with ⟨dO,rfl,k1⟩ | ⟨hF,hf,o,v',hE,rfl,hO,k1⟩
 ·refine ⟨0,none,0,0,none,0,0,0,1,he,?_⟩;have s1:=k1.size;refine aD λb w2 hb hB k2=>sN rfl hB λw3 bP k3=>abu dO b w3 (by omega) ((k1.ak k2).bw k3 (by omega)) bP
 ·have pT:=hO;obtain ⟨q,m,d,q',m',d',gs,rfl,g1,g2,g3,g4⟩:=hO;refine ⟨_,q,m,d,q',m',d',_,0,he,?_⟩;have s1:=k1.size;refine aD λb w2 hb hB k2=>sN rfl hB λw3 bP k3=>?_;have s2:=k2.size;have gQ:af aq w1 w3:=k2.bw k3 (by omega);refine ahx hF hf o q m d q' m' d' b w3 hE (pT.ax gQ λ_ _ _ q=>q) (by omega) (λi hi=>?_) (k1.ak gQ) bP;rcases hi with hi | hi
  ·have:=g1.lt i hi; omega
  ·have:=g3.own.lt i hi; omega
def BT (b:Int):kN:=⟨100,2000,300,4606732058837280358,3,b⟩
theorem rY (b:Int):cS.formed (BT b).bs (BT b).f (BT b).g (BT b).d (BT b).ph=true:=by
 show cS.formed 100 2000 300 4606732058837280358 3=true;decide +kernel
theorem Dd (w:World):Calls Tryz.prog 20 #[] w λe w'=>e=.returned (.agg #[I 100,I 2000,I 300,.float .f64 4606732058837280358,I 3,I (-1)])/\af aq w w':=by
 refine (NF w (λv w'=>v=.agg #[I 100,I 2000,I 300,.float .f64 4606732058837280358,I 3,I (-1)]/\af aq w w') ?_).mono λe w' ⟨v,he,hv,hk⟩=>⟨by rw [he,hv],hk⟩
 unfold V20;refine aD λb2 w1 rN hB k1=>?_;simp only [ag,Nat.zero_add];refine aG hB (by simp) rfl λw2 hB k2 _=>aG hB (by simp) rfl λw3 hB k3 _=>aG hB (by simp) rfl λw4 hB k4 _=>aG hB (by simp) rfl λw5 hB k5 _=>aG hB (by simp) rfl λw6 hB k6 _=>aG hB (by simp) rfl λw7 hB k7 _=>?_;refine ah (hB.cell 0) (ah (hB.cell 1) (ah (hB.cell 2) (dY (hB.cell 3) (ah (hB.cell 4) (ah (hB.cell 5) ⟨rfl,?_⟩)))));exact (((((k1.bw k2 (by omega)).bw k3 (by omega)).bw k4 (by omega)).bw k5 (by omega)).bw k6 (by omega)).bw k7 (by omega)
theorem rZ {c:kN} {av:List (List Int)} {nv:Nat} {o:Ou} (h:FN c av nv o):(o.fin=1/\o.model.length=nv/\(∀d∈av,xH o.model d)/\0<=o.cf/\o.cf<=Kb nv+1/\(0<=c.dh->o.cf<=c.dh))\/(o.fin=2/\(∀T,¬Yn T av)/\0<o.proof.length/\0<=o.cf/\o.cf<=Kb nv+1/\(0<=c.dh->o.cf<=c.dh))\/(o.fin=3/\0<=c.dh/\o=⟨3,[],[],c.dh⟩):=by
 cases h with
 | out hb=>exact Or.inr (Or.inr ⟨rfl,hb,rfl⟩)
 | @sat e m k hq hn hm hk hb=>
  refine Or.inl ⟨rfl,?_,λd hd=>MZ hq hm d (List.mem_append_left _ hd),by show (0:Int)<=(k:Int); omega,by show (k:Int)<=((Kb nv:Nat):Int)+1; omega,hb⟩;have:=(vh hm).2.2.1;show m.length=nv;omega
 | @unsat l k hT hl hk hb=>exact Or.inr (Or.inl ⟨rfl,hT,List.length_pos_iff.2 hl,by show (0:Int)<=(k:Int); omega,by show (k:Int)<=((Kb nv:Nat):Int)+1; omega,hb⟩)
theorem Jn:bD 2 [[1,2],[-1]]:=⟨by omega,by omega,λc hc x hx=>by
 simp only [List.mem_cons,List.not_mem_nil,or_false] at hc;rcases hc with rfl | rfl<;>simp only [List.mem_cons,List.not_mem_nil,or_false] at hx
 ·rcases hx with rfl | rfl<;>exact ⟨by omega,by decide,by decide⟩
 ·subst hx; exact ⟨by omega,by decide,by decide⟩⟩
theorem NS:bD 2 [[1,2],[-1,2],[1, -2],[-1, -2]]:=⟨by omega,by omega,λc hc x hx=>by
 simp only [List.mem_cons,List.not_mem_nil,or_false] at hc;rcases hc with rfl | rfl | rfl | rfl<;>simp only [List.mem_cons,List.not_mem_nil,or_false] at hx<;>rcases hx with rfl | rfl<;>exact ⟨by omega,by decide,by decide⟩⟩
theorem r_ {w:World} {b:Nat} {xs:List Int} {t:TypeId} (h:b_ w b (xs.map I) t):cQ w (some ⟨b,0,none⟩) xs.length xs:=
 ⟨rfl,λi x hx=>⟨_,rfl,by rw [ag,Nat.zero_add,h.cell,List.getElem?_map,hx]; rfl⟩⟩
theorem Ww:Yn (λx=>x=-1\/x=2\/(x≠1/\x≠ -2/\0<x)) [[1,2],[-1]]:=by
 refine ⟨λx h=>by omega,λx h=>by omega,λc hc=>?_⟩;simp only [List.mem_cons,List.not_mem_nil,or_false] at hc;rcases hc with rfl | rfl
 ·exact ⟨2,by simp,by omega⟩
 ·exact ⟨-1,by simp,by omega⟩
theorem SD {m:List Bool} (hm:m.length=2) (h:∀d∈[[1,2],[-1,2],[1, -2],[-1, -2]],xH m d):False:=by
 match m,hm with
 | [a,b],_=>
  have h1:=h [1,2] (by simp);have h2:=h [-1,2] (by simp);have h3:=h [1, -2] (by simp);have h4:=h [-1, -2] (by simp);cases a<;>cases b<;>simp [xH,lt] at h1 h2 h3 h4
theorem ahy (w:World):Calls Tryz.prog 23 #[] w λe w'=>∃b n,e=.returned (.agg #[I 2,.slice (some ⟨b,0,none⟩) 2 n])/\pP (λi=>i<w'.heap.size) w' (some ⟨b,0,none⟩) 2 [[1,2],[-1]]/\af aq w w':=by
 refine (NB w (λv w'=>∃b n,v=.agg #[I 2,.slice (some ⟨b,0,none⟩) 2 n]/\pP (λi=>i<w'.heap.size) w' (some ⟨b,0,none⟩) 2 [[1,2],[-1]]/\af aq w w') ?_).mono λe w' ⟨v,he,b,n,hv,hk⟩=>⟨b,n,by rw [he,hv],hk⟩
 unfold V23;refine aD λb2 w1 rN bH k1=>aD λb4 w2 hb4 gJ k2=>aD λb5 w3 hb5 oe k3=>aD λb6 w4 hb6 rI k4=>?_;have l2:=bH.lt; have l4:=gJ.lt; have l5:=oe.lt; have l6:=rI.lt;have s1:=k1.size; have s2:=k2.size; have s3:=k3.size; have s4:=k4.size;simp only [ag,Nat.zero_add];refine aG (((bH.aa k2).aa k3).aa k4) (by simp) rfl λw5 bH k5 z5=>aG bH (by simp) rfl λw6 bH k6 z6=>?_;refine ah (bH.cell 0) (au (bH.cell 1) ⟨b6,_,rfl,?_,?_⟩)
 ·have gJ:=((((gJ.aa k3).aa k4).aJ k5 (by omega)).aJ k6 (by omega))
  have oe:=((oe.aa k4).aJ k5 (by omega)).aJ k6 (by omega);have rI:=(rI.aJ k5 (by omega)).aJ k6 (by omega);refine ⟨rfl,λi es hi=>?_⟩;match i with
  | 0=>
   simp only [List.getElem?_cons_zero,Option.some.injEq] at hi;subst hi;exact ⟨_,_,2,2,rfl,by rw [ag]; exact rI.cell 0,r_ (xs:=[1,2]) gJ,by show b6<_; omega,λj ⟨a,ha,hj⟩ _=>by cases ha; rw [<-hj]; show b4<_; omega,λq=>by cases q⟩
  | 1=>
   simp only [List.getElem?_cons_succ,List.getElem?_cons_zero,Option.some.injEq] at hi;subst hi;exact ⟨_,_,1,1,rfl,by rw [ag]; exact rI.cell 1,r_ (xs:=[-1]) oe,by show b6<_; omega,λj ⟨a,ha,hj⟩ _=>by cases ha; rw [<-hj]; show b5<_; omega,λq=>by cases q⟩
  | i+2=>simp at hi
 ·exact ((((k1.ak k2).ak k3).ak k4).bw k5 (by omega)).bw k6 (by omega)
theorem amR (w:World):Calls Tryz.prog 35 #[] w λe w'=>∃b n,e=.returned (.agg #[I 2,.slice (some ⟨b,0,none⟩) 4 n])/\pP (λi=>i<w'.heap.size) w' (some ⟨b,0,none⟩) 4 [[1,2],[-1,2],[1, -2],[-1, -2]]/\af aq w w':=by
 refine (NC w (λv w'=>∃b n,v=.agg #[I 2,.slice (some ⟨b,0,none⟩) 4 n]/\pP (λi=>i<w'.heap.size) w' (some ⟨b,0,none⟩) 4 [[1,2],[-1,2],[1, -2],[-1, -2]]/\af aq w w') ?_).mono λe w' ⟨v,he,b,n,hv,hk⟩=>⟨b,n,by rw [he,hv],hk⟩
 unfold V35;refine aD λb2 w1 rN bH k1=>aD λb4 w2 hb4 gJ k2=>aD λb5 w3 hb5 oe k3=>aD λb6 w4 hb6 rI k4=>aD λb7 w5 hb7 mU k5=>aD λb8 w6 hb8 TB k6=>?_;have l2:=bH.lt; have l4:=gJ.lt; have l5:=oe.lt; have l6:=rI.lt; have l7:=mU.lt; have l8:=TB.lt;have s1:=k1.size; have s2:=k2.size; have s3:=k3.size; have s4:=k4.size; have s5:=k5.size; have s6:=k6.size;simp only [ag,Nat.zero_add];refine aG (((((bH.aa k2).aa k3).aa k4).aa k5).aa k6) (by simp) rfl λw7 bH k7 z7=>aG bH (by simp) rfl λw8 bH k8 z8=>?_;refine ah (bH.cell 0) (au (bH.cell 1) ⟨b8,_,rfl,?_,?_⟩)
 ·have gJ:=((((((gJ.aa k3).aa k4).aa k5).aa k6).aJ k7 (by omega)).aJ k8 (by omega))
  have oe:=(((((oe.aa k4).aa k5).aa k6).aJ k7 (by omega)).aJ k8 (by omega))
  have rI:=((((rI.aa k5).aa k6).aJ k7 (by omega)).aJ k8 (by omega))
  have mU:=(((mU.aa k6).aJ k7 (by omega)).aJ k8 (by omega))
  have TB:=(TB.aJ k7 (by omega)).aJ k8 (by omega);refine ⟨rfl,λi es hi=>?_⟩;match i with
  | 0=>
   simp only [List.getElem?_cons_zero,Option.some.injEq] at hi;subst hi;exact ⟨_,_,2,2,rfl,by rw [ag]; exact TB.cell 0,r_ (xs:=[1,2]) gJ,by show b8<_; omega,λj ⟨a,ha,hj⟩ _=>by cases ha; rw [<-hj]; show b4<_; omega,λq=>by cases q⟩
  | 1=>
   simp only [List.getElem?_cons_succ,List.getElem?_cons_zero,Option.some.injEq] at hi;subst hi;exact ⟨_,_,2,2,rfl,by rw [ag]; exact TB.cell 1,r_ (xs:=[-1,2]) oe,by show b8<_; omega,λj ⟨a,ha,hj⟩ _=>by cases ha; rw [<-hj]; show b5<_; omega,λq=>by cases q⟩
  | 2=>
   simp only [List.getElem?_cons_succ,List.getElem?_cons_zero,Option.some.injEq] at hi;subst hi;exact ⟨_,_,2,2,rfl,by rw [ag]; exact TB.cell 2,r_ (xs:=[1, -2]) rI,by show b8<_; omega,λj ⟨a,ha,hj⟩ _=>by cases ha; rw [<-hj]; show b6<_; omega,λq=>by cases q⟩
  | 3=>
   simp only [List.getElem?_cons_succ,List.getElem?_cons_zero,Option.some.injEq] at hi;subst hi;exact ⟨_,_,2,2,rfl,by rw [ag]; exact TB.cell 3,r_ (xs:=[-1, -2]) mU,by show b8<_; omega,λj ⟨a,ha,hj⟩ _=>by cases ha; rw [<-hj]; show b7<_; omega,λq=>by cases q⟩
  | i+4=>simp at hi
 ·exact ((((((k1.ak k2).ak k3).ak k4).ak k5).ak k6).bw k7 (by omega)).bw k8 (by omega)
theorem se {c:kN} {nv:Int} {av:List (List Int)} (hf:bD nv av) (pn:cS.formed c.bs c.f c.g c.d c.ph=true) (hn:av.length<=1048576) (hl:∀es∈av,es.length<=1048576) (mZ:nv<=20\/(0<=c.dh/\c.dh<=500)) {o:Ou} (hE:Ny c av nv.toNat o):FN c av nv.toNat o:=by
 obtain ⟨o',hW,hF⟩:=YK hf pn hn hl mZ;obtain ⟨t,ht⟩:=hE.run;obtain ⟨t',ht'⟩:=hW.run;rw [yB t t' _ _ _ ht ht']; exact hF
theorem De (w:World):Calls Tryz.prog 12 #[] w λe w'=>e=.returned (.bool true)/\af aq w w':=by
 refine (NA w (λv w'=>v=.bool true/\af aq w w') ?_).mono λe w' ⟨v,he,hv,hk⟩=>⟨by rw [he,hv],hk⟩
 unfold V12;refine az amG (ahy w) λe w1 ⟨b,n,he,hC,k1⟩=>⟨2,_,2,n,he,?_⟩
 refine az ach (Dd w1) λe w2 ⟨he,k2⟩=>⟨_,_,_,_,_,_,he,?_⟩
 have uc:∀es∈([[1,2],[-1]]:List (List Int)),es.length<=1048576:=λes h=>by
  simp only [List.mem_cons,List.not_mem_nil,or_false] at h;rcases h with rfl | rfl<;>decide
 have zH:∀es∈([[1,2],[-1,2],[1, -2],[-1, -2]]:List (List Int)),es.length<=1048576:=λes h=>by
  simp only [List.mem_cons,List.not_mem_nil,or_false] at h;rcases h with rfl | rfl | rfl | rfl<;>decide
 have s2:=k2.size;refine rX (c:=BT (-1)) (hC.ax k2 λ_ _ q=>q) (λj hj=>by omega) (by decide) uc (λhf pn=>?_) ⟨by decide,by decide⟩ (λdO=>absurd ⟨Jn,rY _⟩ dO) λhF hf o q m d q' m' d' EB w3 hE hO hb bz k3 hB=>?_
 ·obtain ⟨o,h,_⟩:=YK hf pn (by decide) uc (Or.inl (by decide));exact ⟨_,o,h⟩
 have ace:=rZ (se hF hf (by decide) uc (Or.inl (by decide)) hE);have h1:o.fin=1/\o.model.length=2:=by
  rcases ace with ⟨a,b,_⟩ | ⟨_,a,_⟩ | ⟨_,a,_⟩
  ·exact ⟨a,b⟩
  ·exact absurd Ww (a _)
  ·exact absurd a (by decide)
 have hm:m=2:=by
  obtain ⟨_,_,_,_,_,_,_,heq,g1,_⟩:=hO;injection heq with heq;simp only [Array.mk.injEq,List.cons.injEq,Value.slice.injEq] at heq;obtain ⟨_,⟨_,e2,_⟩,_⟩:=heq;have:=g1.len;rw [List.length_map,Nat.mul_one] at this;omega
 have oF:=(k1.ak k2).ak k3;refine az amH (amR w3) λe w4 ⟨b',n',he,hC',k4⟩=>⟨2,_,4,n',he,?_⟩
 refine az ach (Dd w4) λe w5 ⟨he,k5⟩=>⟨_,_,_,_,_,_,he,?_⟩
 have s5:=k5.size;have oe:=(hB.aa k4).aa k5;refine rX (c:=BT (-1)) (hC'.ax k5 λ_ _ q=>q) (λj hj=>by omega) (by decide) zH (λhf pn=>?_) ⟨by decide,by decide⟩ (λdO=>absurd ⟨NS,rY _⟩ dO) λhF hf o2 q2 m2 d2 q2' m2' d2' b37 w6 Kl Cm rN ahz k6 rI=>?_
 ·obtain ⟨o,h,_⟩:=YK hf pn (by decide) zH (Or.inl (by decide));exact ⟨_,o,h⟩
 have ahA:=rZ (se hF hf (by decide) zH (Or.inl (by decide)) Kl);have h2:o2.fin=2/\0<o2.proof.length:=by
  rcases ahA with ⟨_,b,a,_⟩ | ⟨a,_,b,_⟩ | ⟨_,a,_⟩
  ·exact (SD b a).elim
  ·exact ⟨a,b⟩
  ·exact absurd a (by decide)
 have hm2:0<m2':=by
  obtain ⟨_,_,_,_,_,_,_,heq,_,_,g3,_⟩:=Cm;injection heq with heq;simp only [Array.mk.injEq,List.cons.injEq,Value.slice.injEq] at heq;obtain ⟨_,_,⟨_,e2,_⟩,_⟩:=heq;have:=g3.nn;omega
 have ahB:=oe.aa k6;have Dp:=((oF.ak k4).ak k5).ak k6;simp only [ag,Nat.zero_add];refine aS rfl (ah (ahB.cell 0) ?_);dsimp only;rw [h1.1];refine aS rfl (au (ahB.cell 1) ?_);dsimp only;rw [hm];refine aS rfl (ah (rI.cell 0) ?_);dsimp only;rw [h2.1];refine aS rfl (au (rI.cell 2) ⟨?_,Dp⟩);show Value.bool (decide ((m2':Int)>0))=_;rw [decide_eq_true (by omega)]
end Sv
namespace Sv
open Go Vc T bp
open bt (cQ aL aA bg aO aB Sl sv LL)
def kN.wb (c:kN) (b:Int):kN:=⟨c.bs,c.f,c.g,c.d,c.ph,b⟩
section
variable {c:kN} {av:List (List Int)} {nv:Nat} {S S':SS} {o:Ou}
theorem iE (c:kN) (b:Int) (S:SS):round (c.wb b) S=if (spread S.E).2=false/\0<=b/\(S.cf:Int)=b then ({S with E:=(spread S.E).1},some ⟨3,[],[],b⟩) else round (c.wb (-1)) S:=by
 by_cases h1:(spread S.E).2=false
 ·by_cases h2:0<=b/\(S.cf:Int)=b
  ·rw [if_pos ⟨h1,h2⟩];unfold round;dsimp only;rw [if_pos h1,if_pos (show 0<=(c.wb b).dh/\(S.cf:Int)=(c.wb b).dh from h2)];rfl
  ·rw [if_neg (λq=>h2 q.2)];unfold round;dsimp only;rw [if_pos h1,if_pos h1,if_neg (show ¬(0<=(c.wb b).dh/\(S.cf:Int)=(c.wb b).dh) from h2),if_neg (show ¬(0<=(c.wb (-1)).dh/\(S.cf:Int)=(c.wb (-1)).dh) from λq=>absurd q.1 (by show ¬(0:Int)<= -1; decide))];rfl
 ·rw [if_neg (λq=>h1 q.1)];unfold round;dsimp only;rw [if_neg h1,if_neg h1];rfl
theorem FV (h:round (c.wb (-1)) S=(S',some o)):o.fin≠3/\((spread S.E).2=false->o.cf=S.cf+1)/\((spread S.E).2=true->o.cf=S.cf):=by
 unfold round at h;dsimp only at h;split at h
 ·rename_i h1;rw [if_neg (λq=>absurd q.1 (by show ¬(0:Int)<= -1; decide))] at h;split at h
  ·injection h with _ h;injection h with h;subst h;exact ⟨by show (2:Int)≠3; decide,λ_=>by show ((S.cf+1:Nat):Int)=_; omega,λq=>by rw [h1] at q; cases q⟩
  ·injection h with _ h; cases h
 ·rename_i h1;split at h
  ·injection h with _ h;injection h with h;subst h;exact ⟨by show (1:Int)≠3; decide,λq=>absurd q h1,λ_=>rfl⟩
  ·split at h
   ·injection h with _ h; cases h
   ·injection h with _ h; cases h
theorem FW (h:round (c.wb (-1)) S=(S',none)):((spread S.E).2=false->S'.cf=S.cf+1)/\((spread S.E).2=true->S'.cf=S.cf):=by
 unfold round at h;dsimp only at h;split at h
 ·rename_i h1;rw [if_neg (λq=>absurd q.1 (by show ¬(0:Int)<= -1; decide))] at h;split at h
  ·injection h with _ h; cases h
  ·injection h with h _;subst h;refine ⟨λ_=>?_,λq=>by rw [h1] at q; cases q⟩;unfold bV; split<;>rfl
 ·rename_i h1;split at h
  ·injection h with _ h; cases h
  ·split at h
   ·injection h with h _;subst h;refine ⟨λq=>absurd q h1,λ_=>?_⟩;unfold eZ; dsimp only; split<;>rfl
   ·injection h with h _;subst h;exact ⟨λq=>absurd q h1,λ_=>rfl⟩
theorem KY (c:kN) (b1 b2:Int):∀(t:Nat) (S:SS) (o:Ou),run (c.wb b1) t S=some o->o.fin≠3->(S.cf:Int)<=o.cf/\((0<=b2->(S.cf:Int)<=b2)->run (c.wb b2) t S=some (if 0<=b2/\o.cf>b2 then ⟨3,[],[],b2⟩ else o))
 | 0,S,o,h,_=>by cases h
 | t+1,S,o,h,hf=>by
  unfold run at h;rw [iE] at h;split at h
  ·rename_i S' o' q;split at q
   ·injection q with _ q;injection q with q;injection h with h;rw [<-h,<-q] at hf;exact absurd rfl hf
   ·injection h with h;subst h;obtain ⟨a1,a2,a3⟩:=FV q;cases hs:(spread S.E).2 with
    | false=>
     have e:=a2 hs;refine ⟨by omega,λhb=>?_⟩;unfold run;rw [iE];by_cases hc:0<=b2/\(S.cf:Int)=b2
     ·rw [if_pos ⟨hs,hc⟩,if_pos ⟨hc.1,by omega⟩]
     ·rw [if_neg (λq=>hc q.2),q,if_neg (λ⟨q1,q2⟩=>hc ⟨q1,by have:=hb q1; omega⟩)]
    | true=>
     have e:=a3 hs;refine ⟨by omega,λhb=>?_⟩;unfold run;rw [iE,if_neg (λq=>by rw [hs] at q; cases q.1),q,if_neg (λ⟨q1,q2⟩=>by have:=hb q1; omega)]
  ·rename_i S' q;split at q
   ·injection q with _ q; cases q
   ·obtain ⟨a1,a2⟩:=FW q;obtain ⟨r1,r2⟩:=KY c b1 b2 t S' o h hf;cases hs:(spread S.E).2 with
    | false=>
     have e:=a1 hs;refine ⟨by omega,λhb=>?_⟩;unfold run;rw [iE];by_cases hc:0<=b2/\(S.cf:Int)=b2
     ·rw [if_pos ⟨hs,hc⟩,if_pos ⟨hc.1,by omega⟩]
     ·rw [if_neg (λq=>hc q.2),q];exact r2 λq1=>by
       have:=hb q1;have h9:(S.cf:Int)≠b2:=λq2=>hc ⟨q1,q2⟩;omega
    | true=>
     have e:=a2 hs;refine ⟨by omega,λhb=>?_⟩;unfold run;rw [iE,if_neg (λq=>by rw [hs] at q; cases q.1),q];exact r2 λq1=>by have:=hb q1; omega
theorem KZ {nvI:Int} (hf:bD nvI av) (pn:cS.formed c.bs c.f c.g c.d c.ph=true) (hn:av.length<=1048576) (hl:∀es∈av,es.length<=1048576) {b1:Int} (mZ:nvI<=20\/(0<=b1/\b1<=500)) (hE:Ny (c.wb b1) av nvI.toNat o) (h3:o.fin≠3) (b2:Int) :
  ∃P,Wy (c.wb b2) av nvI.toNat P (if 0<=b2/\o.cf>b2 then ⟨3,[],[],b2⟩ else o):=by
 obtain ⟨o',hW,_⟩:=YK (c:=c.wb b1) hf pn hn hl mZ;obtain ⟨t,ht⟩:=hE.run;obtain ⟨_,h2⟩:=KY c b1 b2 t _ o ht h3;refine ⟨λS=>Sv (c.wb b1) av nvI.toNat S/\∃k,run (c.wb b1) k S=some o,⟨⟨hW.start,t,ht⟩,λS h=>hW.hold S h.1,λS S' h er=>?_,t,h2 λq=>q⟩⟩;obtain ⟨hS,k,hk⟩:=h;rw [iE] at er;split at er
 ·injection er with _ er; cases er
 ·have e1:round (c.wb b1) S=(S',none):=by
   rw [iE];split
   ·rename_i hc;exfalso;cases k with
    | zero=>cases hk
    | succ k=>
     unfold run at hk;rw [iE,if_pos hc] at hk;injection hk with hk;rw [<-hk] at h3;exact h3 rfl
   ·exact er
  refine ⟨hW.step S S' hS e1,?_⟩;cases k with
  | zero=>cases hk
  | succ k=>
   unfold run at hk;rw [e1] at hk;exact ⟨k,hk⟩
end
theorem Wx:∀nv:Nat,nv<20->Kb nv+1<=4*9 ^ nv:=by decide +kernel
def fK (nv b:Int):Int:=if nv>20/\(b<0\/b>500) then 500 else b
theorem FX (nv:Int) (p:Option Addr) (n cp:Nat) (c:kN) (w:World):Calls Tryz.prog 13 #[.agg #[I nv,.slice p n cp],.agg #[I c.bs,I c.f,I c.g,.float .f64 c.d,I c.ph,I c.dh]] w λe w'=>
  e=.returned (.agg #[I c.bs,I c.f,I c.g,.float .f64 c.d,I c.ph,I (fK nv c.dh)])/\af aq w w':=by
 refine (ND nv p n cp c.bs c.f c.g c.d c.ph c.dh w (λv w'=>v=.agg #[I c.bs,I c.f,I c.g,.float .f64 c.d,I c.ph,I (fK nv c.dh)]/\af aq w w') ?_).mono λe w' ⟨v,he,hv,hk⟩=>⟨by rw [he,hv],hk⟩
 unfold V13;refine aD λb2 w1 rN bH k1=>aD λb3 w2 R7 bP k2=>aD λb4 w3 hb4 gJ k3=>?_;have l3:=bP.lt; have l2:=bH.lt; have l4:=gJ.lt;have bH:=(bH.aa k2).aa k3;have bP:=bP.aa k3;have oF:=(k1.ak k2).ak k3;have s1:=k1.size; have s2:=k2.size; have s3:=k3.size;simp only [ag,Nat.zero_add,Nat.add_zero];refine ⟨λ_ W=>b_ W b3 [I c.bs,I c.f,I c.g,.float .f64 c.d,I c.ph,I (fK nv c.dh)] 27/\(∃cs,cs.length=6/\b_ W b4 cs 27)/\af aq w W,?_,?_⟩
 ·refine ah (bH.cell 0) ?_;by_cases h1:nv>20
  ·have d1:decide (nv>20)=true:=decide_eq_true h1;rw [d1];refine aS rfl (ah (bP.cell 5) ?_);dsimp only;by_cases h2:c.dh<0
   ·have d2:decide (c.dh<0)=true:=decide_eq_true h2;rw [d2];refine a_ rfl (aX rfl ?_);refine aG bP (by simp) rfl λw4 hB k4 _=>⟨?_,⟨_,rfl,gJ.aJ k4 (by omega)⟩,oF.bw k4 (by omega)⟩
    have e:fK nv c.dh=500:=by unfold fK; rw [if_pos ⟨h1,Or.inl h2⟩]
    rw [e]; exact hB
   ·have d2:decide (c.dh<0)=false:=decide_eq_false h2;rw [d2];refine aS rfl (ah (bP.cell 5) (aF (λh3=>?_) λh3=>?_))
    ·have h3:c.dh>500:=by simpa using h3
     refine aG bP (by simp) rfl λw4 hB k4 _=>⟨?_,⟨_,rfl,gJ.aJ k4 (by omega)⟩,oF.bw k4 (by omega)⟩
     have e:fK nv c.dh=500:=by unfold fK; rw [if_pos ⟨h1,Or.inr h3⟩]
     rw [e]; exact hB
    ·have h3:¬c.dh>500:=by simpa using h3
     have e:fK nv c.dh=c.dh:=by unfold fK; rw [if_neg (λq=>q.2.elim h2 h3)]
     rw [e];exact ⟨bP,⟨_,rfl,gJ⟩,oF⟩
  ·have d1:decide (nv>20)=false:=decide_eq_false h1;rw [d1];refine a_ rfl (a_ rfl (aT rfl ?_));have e:fK nv c.dh=c.dh:=by unfold fK; rw [if_neg (λq=>h1 q.1)]
   rw [e];exact ⟨bP,⟨_,rfl,gJ⟩,oF⟩
 ·rintro ⟨⟩ W ⟨bP,⟨cs,vE,gJ⟩,kW⟩;match cs,vE with
  | [x0,x1,x2,x3,x4,x5],_=>
  refine ah (bP.cell 0) (ah (bP.cell 1) (ah (bP.cell 2) (dY (bP.cell 3) (ah (bP.cell 4) (ah (bP.cell 5) ?_)))));refine aG gJ (by simp) rfl λw2 hB k2 _=>aG hB (by simp) rfl λw3 hB k3 _=>aG hB (by simp) rfl λw4 hB k4 _=>aG hB (by simp) rfl λw5 hB k5 _=>aG hB (by simp) rfl λw6 hB k6 _=>aG hB (by simp) rfl λw7 hB k7 _=>?_;refine ah (hB.cell 0) (ah (hB.cell 1) (ah (hB.cell 2) (dY (hB.cell 3) (ah (hB.cell 4) (ah (hB.cell 5) ⟨rfl,?_⟩)))));exact (((((kW.bw k2 (by omega)).bw k3 (by omega)).bw k4 (by omega)).bw k5 (by omega)).bw k6 (by omega)).bw k7 (by omega)
end Sv
namespace Sv
open Go Vc T bp
open bt (cQ aL aA bg aO aB Sl sv LL)
theorem K0 {w:World} {b:Nat} {nv:Int} {p:Option Addr} {n cp:Nat} {K:Int->Option Addr->Nat->Nat->Prop} (hB:b_ w b [I nv,.slice p n cp] 24) (hK:K nv p n cp):aW .i64 w ((⟨b,0,none⟩:Addr).add 0) λx=>aZ w ((⟨b,0,none⟩:Addr).add 1) λy y1 y2=>K x y y1 y2:=by
 simp only [ag];exact ah (hB.cell 0) (au (hB.cell 1) hK)
theorem ld6 {w:World} {b:Nat} {a0 a1 a2 a4 a5:Int} {a3:Nat} {K:Int->Int->Int->Nat->Int->Int->Prop} (hB:b_ w b [I a0,I a1,I a2,.float .f64 a3,I a4,I a5] 27) (hK:K a0 a1 a2 a3 a4 a5) :
  aW .i64 w ((⟨b,0,none⟩:Addr).add 0) λx0=>aW .i64 w ((⟨b,0,none⟩:Addr).add 1) λx1=>aW .i64 w ((⟨b,0,none⟩:Addr).add 2) λx2=>wR .f64 w ((⟨b,0,none⟩:Addr).add 3) λx3=>aW .i64 w ((⟨b,0,none⟩:Addr).add 4) λx4=>aW .i64 w ((⟨b,0,none⟩:Addr).add 5) λx5=>K x0 x1 x2 x3 x4 x5:=by
 simp only [ag];exact ah (hB.cell 0) (ah (hB.cell 1) (ah (hB.cell 2) (dY (hB.cell 3) (ah (hB.cell 4) (ah (hB.cell 5) hK)))))
theorem SO {w:World} {b:Nat} {a0 a1 a2 a4 a5:Int} {a3:Nat} (x:Int) {K:World->Prop} (hB:b_ w b [I a0,I a1,I a2,.float .f64 a3,I a4,I a5] 27) (hK:∀w',b_ w' b [I a0,I a1,I a2,.float .f64 a3,I a4,I x] 27->af (One b) w w'->K w'):st w (((⟨b,0,none⟩:Addr).add 5).add 0) (I x) K:=by
 simp only [ag];exact aG hB (by simp) rfl λw' h k _=>hK w' h k
theorem st6 {w:World} {b:Nat} {cs:List Value} (hl:cs.length=6) {a0 a1 a2 a4 a5:Int} {a3:Nat} {K:World->Prop} (hB:b_ w b cs 27) (hK:∀w',b_ w' b [I a0,I a1,I a2,.float .f64 a3,I a4,I a5] 27->af (One b) w w'->K w') :
  st w ((⟨b,0,none⟩:Addr).add 0) (I a0) λw1=>st w1 ((⟨b,0,none⟩:Addr).add 1) (I a1) λw2=>st w2 ((⟨b,0,none⟩:Addr).add 2) (I a2) λw3=>st w3 ((⟨b,0,none⟩:Addr).add 3) (.float .f64 a3) λw4=>st w4 ((⟨b,0,none⟩:Addr).add 4) (I a4) λw5=>st w5 ((⟨b,0,none⟩:Addr).add 5) (I a5) K:=by
 match cs,hl with
 | [x0,x1,x2,x3,x4,x5],_=>
 simp only [ag,Nat.zero_add];refine aG hB (by simp) rfl λw2 hB k2 _=>aG hB (by simp) rfl λw3 hB k3 _=>aG hB (by simp) rfl λw4 hB k4 _=>aG hB (by simp) rfl λw5 hB k5 _=>aG hB (by simp) rfl λw6 hB k6 _=>aG hB (by simp) rfl λw7 hB k7 _=>hK w7 hB ?_;exact ((((k2.trans k3 λ_ _ q=>q).trans k4 λ_ _ q=>q).trans k5 λ_ _ q=>q).trans k6 λ_ _ q=>q).trans k7 λ_ _ q=>q
section
variable {Bl:Nat->Prop} {w:World} {nv:Int} {p:Option Addr} {n cp:Nat} {av:List (List Int)}
theorem K1 {W:World} {b2 b3:Nat} (hC:pP Bl W p n av) (hn:n<=1048576) (hl:∀es∈av,es.length<=1048576) (c:kN) {dh:Int} {w:World} (hk:af aq w W)
  (bH:b_ W b2 [I nv,.slice p n cp] 24) (bP:b_ W b3 [I c.bs,I c.f,I c.g,.float .f64 c.d,I c.ph,I dh] 27) (dO:¬(bD nv av/\cS.formed c.bs c.f c.g c.d c.ph=true)) :
  aW .i64 W ((⟨b2,0,none⟩:Addr).add 0) λpL=>aZ W ((⟨b2,0,none⟩:Addr).add 1) λj_ gM iJ=>
  aW .i64 W ((⟨b3,0,none⟩:Addr).add 0) λyq=>aW .i64 W ((⟨b3,0,none⟩:Addr).add 1) λtX=>aW .i64 W ((⟨b3,0,none⟩:Addr).add 2) λnA=>wR .f64 W ((⟨b3,0,none⟩:Addr).add 3) λCC=>aW .i64 W ((⟨b3,0,none⟩:Addr).add 4) λng=>aW .i64 W ((⟨b3,0,none⟩:Addr).add 5) λvY=>
  cl Tryz.prog 15 [.agg #[.int .i64 pL,.slice j_ gM iJ],.agg #[.int .i64 yq,.int .i64 tX,.int .i64 nA,.float .f64 CC,.int .i64 ng,.int .i64 vY]] W λe52 eA=>∃xM:Int,e52=Ending.returned (.int .i64 xM)/\
   (λ(v:Value) w'=>v=.bool true/\af aq w w') (.bool ((1:Int)==xM)) eA:=by
 refine K0 bH (ld6 bP ?_);refine az amI (NQ hC hn hl c dh) λe w1 ⟨r,he,_,h1,k1⟩=>⟨r,he,?_⟩
 rw [h1 dO];exact ⟨rfl,hk.ak k1⟩
theorem amS (hC:pP Bl w p n av) (nj:∀j,Bl j->j<w.heap.size) (hn:n<=1048576) (hl:∀es∈av,es.length<=1048576) (c:kN) (more:Int) (hm : -9223372036854775808<=more/\more<=9223372036854775807) :
  Calls Tryz.prog 5 #[.agg #[I nv,.slice p n cp],.agg #[I c.bs,I c.f,I c.g,.float .f64 c.d,I c.ph,I c.dh],I more] w λe w'=>e=.returned (.bool true)/\RowKit.Below w.heap.size w w':=by
 refine (Ss nv p n cp c.bs c.f c.g c.d c.ph c.dh more w (λv w'=>v=.bool true/\af aq w w') ?_).mono λe w' ⟨v,he,hv,hk⟩=>⟨by rw [he,hv],hk.GV⟩
 unfold V5;have g_:=hC.len;refine aD λb2 w1 rN bH k1=>aD λb3 w2 R7 bP k2=>?_;have l2:=bH.lt; have l3:=bP.lt;have bH:=bH.aa k2;have uP:=k1.ak k2;have s1:=k1.size; have s2:=k2.size;refine az acg (De w2) λe w3 ⟨he,k3⟩=>⟨_,he,aT rfl ?_⟩
 have bH:=bH.aa k3;have bP:=bP.aa k3;have oF:=uP.ak k3;have s3:=k3.size;have c0:∀{W:World},b_ W b2 [I nv,.slice p n cp] 24->W.cell? ((⟨b2,0,none⟩:Addr).add 0)=some (I nv):=λhB=>by rw [ag]; exact hB.cell 0
 refine ah (c0 bH) ?_;by_cases h0:nv<0
 ·have d0:decide (nv<0)=true:=decide_eq_true h0;rw [d0];exact a_ rfl (aX rfl ⟨rfl,oF⟩)
 have d0:decide (nv<0)=false:=decide_eq_false h0;rw [d0];refine aS rfl (ah (c0 bH) ?_);refine aF (λ_=>⟨rfl,oF⟩) λGl=>?_;have Gl:nv<=19:=by
  apply Classical.byContradiction;intro dO;have:decide (nv>19)=true:=decide_eq_true (by omega);rw [this] at Gl; cases Gl
 have h9:∀i:Nat,(i:Int)<=nv->9 ^ i<=1350851717672992089:=λi hi=>Nat.le_trans (Nat.pow_le_pow_right (by decide) (show i<=19 by omega)) (by decide);refine bX (λs W=>∃i:Nat,s.2.1=(i:Int)/\(i:Int)<=nv/\s.1=((4*9 ^ i:Nat):Int)/\W=w3) (λs _=>(nv - s.2.1).toNat) ⟨0,rfl,by show (0:Int)<=nv; omega,rfl,rfl⟩ ?_;rintro ⟨v',i',⟨⟩⟩ W ⟨i,rfl,hi,hv,hW⟩;dsimp only at hv ⊢;subst hv hW;refine ah (c0 bH) (aF (λaM=>?_) λbL=>?_)
 ·have aM:(i:Int)<nv:=by simpa using aM
  rw [aA i (by omega)];refine ⟨⟨i+1,rfl,by omega,?_,rfl⟩,by omega⟩;have:=h9 (i+1) (by omega);have e:((4*9 ^ i:Nat):Int)*9=((4*9 ^ (i+1):Nat):Int):=by rw [Nat.pow_succ]; omega
  rw [e,IntKind.wrap_i64]; omega
 have hiv:(i:Int)=nv:=by
  have:¬(i:Int)<nv:=by simpa using bL
  omega
 have dS:nv.toNat=i:=by omega
 have hb9:=h9 i (by omega);refine SO (-1) bP λw6 bP k6=>?_;have bH:=bH.aJ k6 (by omega);have Dp:=oF.bw k6 (by omega);have s6:=k6.size;have mZ:nv<=20\/(0<=(c.wb (-1)).dh/\(c.wb (-1)).dh<=500):=Or.inl (by omega);refine K0 bH (ld6 bP ?_);refine rX (c:=c.wb (-1)) (hC.ax Dp λ_ _ q=>q) (λj hj=>by have:=nj j hj; have:=Dp.size; omega) hn hl (λhf pn=>?_) ⟨by show (-9223372036854775808:Int)<= -1; decide,by show (-1:Int)<=9223372036854775807; decide⟩ (λdO rW w7 aco k7 kG=>?_) λhF hf o q m d q' m' d' rW w7 hE hO aco bz k7 kG=>?_
 ·obtain ⟨o,h,_⟩:=YK hf pn (by omega) hl mZ;exact ⟨_,o,h⟩
 ·exact aX rfl (K1 (hC.ax (Dp.ak k7) λ_ _ q=>q) hn hl c (Dp.ak k7) (bH.aa k7) (bP.aa k7) dO)
 refine aT rfl ?_;have Wz:=se hF hf (by omega) hl mZ hE;have hkb:=Wx i (by omega);have qg:0<=o.cf/\o.cf<=((4*9 ^ i:Nat):Int)/\o.fin≠3/\(o.fin=1\/o.fin=2):=by
  rw [dS] at Wz;rcases rZ Wz with ⟨a,_,_,b,b',_⟩ | ⟨a,_,_,b,b',_⟩ | ⟨_,a,_⟩
  ·exact ⟨b,by omega,by omega,Or.inl a⟩
  ·exact ⟨b,by omega,by omega,Or.inr a⟩
  ·exact absurd a (by show ¬(0:Int)<= -1; decide)
 obtain ⟨g1,g2,g3,g4⟩:=qg;have c40:∀{W:World},b_ W rW [I o.fin,.slice q m d,.slice q' m' d',I o.cf] 33->W.cell? ((⟨rW,0,none⟩:Addr).add 3)=some (I o.cf):=λhB=>by rw [ag]; exact hB.cell 3
 refine ah (c40 kG) ?_;have d1:decide (o.cf<0)=false:=decide_eq_false (by omega);rw [d1];refine aS rfl (ah (c40 kG) ?_);refine aT (by show decide (o.cf>((4*9 ^ i:Nat):Int))=false; exact decide_eq_false (by omega)) ?_;have bH:=bH.aa k7;have bP:=bP.aa k7;have By:=Dp.ak k7;have s7:=k7.size;have l3':=bP.lt; have l2':=bH.lt; have l40:=kG.lt;refine SO (((4*9 ^ i:Nat):Int)) bP λgT bP AM=>?_;have s15:=AM.size;have ahC:=By.bw AM (by omega);have WA:rW≠b3:=by omega
 have kG:=kG.aJ AM WA;have bH:=bH.aJ AM (by omega);have hO:uh w6 gT _ o:=hO.ax AM λi h1 h2 q=>by have q':i=b3:=q; omega
 refine ⟨λ_ W=>∃b:Int,((4*9 ^ i:Nat):Int)<=b/\b<=9223372036854775807/\b_ W b3 [I c.bs,I c.f,I c.g,.float .f64 c.d,I c.ph,I b] 27/\b_ W b2 [I nv,.slice p n cp] 24/\b_ W rW [I o.fin,.slice q m d,.slice q' m' d',I o.cf] 33/\uh w6 W (.agg #[I o.fin,.slice q m d,.slice q' m' d',I o.cf]) o/\af aq w W,?_,?_⟩
 ·refine aF (λBM=>?_) λhle=>?_
  ·have BM:more>((4*9 ^ i:Nat):Int):=by simpa using BM
   refine SO more bP λfe bP kz=>⟨more,by omega,hm.2,bP,bH.aJ kz (by omega),kG.aJ kz WA,hO.ax kz λi h1 h2 q=>by have q':i=b3:=q; omega,ahC.bw kz (by omega)⟩
  ·exact ⟨_,Int.le_refl _,by omega,bP,bH,kG,hO,ahC⟩
 rintro ⟨⟩ W ⟨b,hb,amT,bP,bH,kG,hO,kW⟩;refine K0 bH (ld6 bP ?_);obtain ⟨P,hWy⟩:=KZ (c:=c) hF hf (by omega) hl (Or.inl (by omega)) hE g3 b;rw [if_neg (λ⟨_,q⟩=>by omega)] at hWy;refine rX (c:=c.wb b) (hC.ax kW λ_ _ q=>q) (λj hj=>by have:=nj j hj; have:=kW.size; omega) hn hl (λ_ _=>⟨P,o,hWy⟩) ⟨by show -9223372036854775808<=b; omega,amT⟩ (λdO=>absurd ⟨hF,hf⟩ dO) λ_ _ o2 u2 m2 d2 u2' m2' d2' Ov gB Kl Cm amU ahz t_ FY=>?_;have eo:o2=o:=by
  obtain ⟨t1,Sj⟩:=Kl.run;obtain ⟨t2,JW⟩:=hWy.run;exact yB t1 t2 _ _ _ Sj JW
 subst eo;have kG:=kG.aa t_;have bI:=kW.ak t_;have rL:=Dc hE (hO.ax t_ λ_ _ _ q=>q);have iM:=Dc Kl Cm;have c79:gB.cell? ((⟨Ov,0,none⟩:Addr).add 0)=some (I o2.fin):=by rw [ag]; exact FY.cell 0
 refine aS rfl (ah c79 ?_);have d3:(o2.fin != 3)=true:=by rw [bne_iff_ne]; exact g3
 dsimp only;rw [d3];refine aS rfl (oV kG (aS rfl (oV FY ?_)));refine aS rfl (az aci (SC rL iM) λe fV ⟨he,ta⟩=>⟨_,he,?_⟩);exact ⟨rfl,bI.ak ta⟩
theorem amV (hC:pP Bl w p n av) (nj:∀j,Bl j->j<w.heap.size) (hn:n<=1048576) (hl:∀es∈av,es.length<=1048576) (c:kN) (b:Int) (hb : -9223372036854775808<=b/\b<=9223372036854775807) :
  Calls Tryz.prog 4 #[.agg #[I nv,.slice p n cp],.agg #[I c.bs,I c.f,I c.g,.float .f64 c.d,I c.ph,I c.dh],I b] w λe w'=>e=.returned (.bool true)/\RowKit.Below w.heap.size w w':=by
 refine (Su nv p n cp c.bs c.f c.g c.d c.ph c.dh b w (λv w'=>v=.bool true/\af aq w w') ?_).mono λe w' ⟨v,he,hv,hk⟩=>⟨by rw [he,hv],hk.GV⟩
 unfold V4;have g_:=hC.len;refine aD λb2 w1 rN bH k1=>aD λb3 w2 R7 bP k2=>?_;have l2:=bH.lt; have l3:=bP.lt;have bH:=bH.aa k2;have uP:=k1.ak k2;have s1:=k1.size; have s2:=k2.size;refine az acg (De w2) λe w3 ⟨he,k3⟩=>⟨_,he,aT rfl ?_⟩
 have bH:=bH.aa k3;have bP:=bP.aa k3;have oF:=uP.ak k3;have s3:=k3.size;refine SO (-1) bP λw4 bP k4=>?_;have bH:=bH.aJ k4 (by omega);have uX:=oF.bw k4 (by omega);have s4:=k4.size;refine K0 bH (ld6 bP ?_);refine az ahr (FX nv p n cp (c.wb (-1)) w4) λe w5 ⟨he,k5⟩=>⟨_,_,_,_,_,_,he,?_⟩
 have bH:=bH.aa k5;have bP:=bP.aa k5;have wz:=uX.ak k5;have s5:=k5.size;refine st6 rfl bP λdB bP gF=>?_;have bH:=bH.aJ gF (by omega);have Iu:=wz.bw gF (by omega);have s11:=gF.size;obtain ⟨b1,um⟩:∃b1,b1=fK nv (-1):=⟨_,rfl⟩
 have bP:b_ dB b3 [I c.bs,I c.f,I c.g,.float .f64 c.d,I c.ph,I b1] 27:=by rw [um]; exact bP
 have amW:(nv<=20/\b1=-1)\/(nv>20/\b1=500):=by
  rw [um];unfold fK;by_cases h:nv>20
  ·rw [if_pos ⟨h,Or.inl (by decide)⟩]; exact Or.inr ⟨h,rfl⟩
  ·rw [if_neg (λq=>h q.1)]; exact Or.inl ⟨by omega,rfl⟩
 clear um;have mZ:nv<=20\/(0<=(c.wb b1).dh/\(c.wb b1).dh<=500):=by
  show nv<=20\/(0<=b1/\b1<=500);rcases amW with ⟨h,_⟩ | ⟨_,h⟩
  ·exact Or.inl h
  ·exact Or.inr (by omega)
 refine K0 bH (ld6 bP ?_);refine rX (c:=c.wb b1) (hC.ax Iu λ_ _ q=>q) (λj hj=>by have:=nj j hj; have:=Iu.size; omega) hn hl (λhf pn=>?_) ⟨by show -9223372036854775808<=b1; omega,by show b1<=9223372036854775807; omega⟩ (λdO rW w7 aco k7 kG=>?_) λhF hf o q m d q' m' d' rW w7 hE hO aco bz k7 kG=>?_
 ·obtain ⟨o,h,_⟩:=YK hf pn (by omega) hl mZ;exact ⟨_,o,h⟩
 ·exact aX rfl (K1 (hC.ax (Iu.ak k7) λ_ _ q=>q) hn hl c (Iu.ak k7) (bH.aa k7) (bP.aa k7) dO)
 refine aT rfl ?_;have Wz:=se hF hf (by omega) hl mZ hE;have c40:w7.cell? ((⟨rW,0,none⟩:Addr).add 0)=some (I o.fin):=by rw [ag]; exact kG.cell 0
 have bH:=bH.aa k7;have bP:=bP.aa k7;have By:=Iu.ak k7;have s7:=k7.size;have l3':=bP.lt; have l2':=bH.lt; have l40:=kG.lt;refine ah c40 (aF (λh3=>?_) λh3=>?_)
 ·have h3:o.fin=3:=by simpa using h3
  have wC:0<=b1:=by
   rcases rZ Wz with ⟨a,_⟩ | ⟨a,_⟩ | ⟨_,a,_⟩
   ·omega
   ·omega
   ·exact a
  refine ah (x:=b1) (by rw [ag]; exact bP.cell 5) ⟨?_,By⟩;rw [decide_eq_true wC]
 have h3:o.fin≠3:=by simpa using h3
 refine SO b bP λfV bP ta=>?_;have acp:=By.bw ta (by omega);have s19:=ta.size;have WA:rW≠b3:=by omega
 have kG:=kG.aJ ta WA;have bH:=bH.aJ ta (by omega);have hO:uh dB fV _ o:=hO.ax ta λi h1 h2 q=>by have q':i=b3:=q; omega
 refine K0 bH (ld6 bP ?_);obtain ⟨P,hWy⟩:=KZ (c:=c) hF hf (by omega) hl mZ hE h3 b;refine rX (c:=c.wb b) (hC.ax acp λ_ _ q=>q) (λj hj=>by have:=nj j hj; have:=acp.size; omega) hn hl (λ_ _=>⟨P,_,hWy⟩) hb (λdO=>absurd ⟨hF,hf⟩ dO) λ_ _ o2 u2 m2 d2 u2' m2' d2' Ov gB Kl Cm amU ahz t_ FY=>?_;have eo:o2=if 0<=b/\o.cf>b then ⟨3,[],[],b⟩ else o:=by
  obtain ⟨t1,Sj⟩:=Kl.run;obtain ⟨t2,JW⟩:=hWy.run;exact yB t1 t2 _ _ _ Sj JW
 have kG:=kG.aa t_;have bI:=acp.ak t_;have rL:=Dc hE (hO.ax t_ λ_ _ _ q=>q);have iM:=Dc Kl Cm;refine aT rfl (aF (λaM=>?_) λbL=>?_)
 ·have aM:b<0:=by simpa using aM
  rw [if_neg (λ⟨q,_⟩=>by omega)] at eo;subst eo;refine oV kG (oV FY ?_);exact az aci (SC rL iM) λe fV ⟨he,ta⟩=>⟨_,he,rfl,bI.ak ta⟩
 ·have bL:0<=b:=by
   have:¬b<0:=by simpa using bL
   omega
  have kd:af aq gB gB.drew:=(af.refl aq gB).drew;have kG:=kG.aa kd;have FY:=FY.aa kd;have bI:=bI.ak kd;have rL:=rL.aa kd;have iM:=iM.aa kd;generalize gB.drew=nF at *
  refine oV FY (oV kG ?_);refine az amO (NR rL b) λe og ⟨u,he,hu,F6⟩=>?_;have eo':(if o.cf>b then (⟨3,[],[],b⟩:Ou) else o)=o2:=by
   rw [eo];by_cases h:o.cf>b
   ·rw [if_pos h,if_pos ⟨bL,h⟩]
   ·rw [if_neg h,if_neg (λq=>h q.2)]
  rw [eo'] at hu;have Gk:=hu;obtain ⟨a1,a2,a3,a4,a5,a6,rfl,_⟩:=hu;refine ⟨_,a1,a2,a3,a4,a5,a6,_,he,?_,?_⟩
  ·exact oV (FY.aa F6) rfl
  exact az aci (SC (iM.aa F6) Gk) λe xh ⟨he,Ey⟩=>⟨_,he,rfl,(bI.ak F6).ak Ey⟩
end
end Sv
namespace Sv
open Go Vc T Go.ChangeShapes Go.WideShapes Go.ChangeAt Go.RowKit bp
theorem NT:Tryz.prog.cellsOf 25=1:=by kernel_rfl
theorem amX:Tryz.prog.cellsOf 27=6:=by kernel_rfl
theorem WB {w:World} {m:Nat} {cs:List Value} (h:Fits Tryz.prog w (m+1) 25 cs):∃n,cs=[.float .f64 n]:=by
 unfold Fits at h; rw [Tryz.underlying25] at h;obtain ⟨n,a,_⟩:=h;exact ⟨n,a⟩
theorem WC {w:World} {m:Nat} {cs:List Value} (h:Fits Tryz.prog w (m+2) 27 cs) :
  ∃c:kN,cs=[I c.bs,I c.f,I c.g,.float .f64 c.d,I c.ph,I c.dh]/\i64 c.dh:=by
 unfold Fits at h; rw [Tryz.underlying27] at h;obtain ⟨hl,h⟩:=h;rw [amX] at hl;match cs,hl with
 | [a0,a1,a2,a3,a4,a5],_=>
  obtain ⟨n0,e0,w0⟩:=mH (m:=m) (cs:=[a0]) (by simpa [A0,NT] using h 0 _ rfl);obtain ⟨n1,e1,w1⟩:=mH (m:=m) (cs:=[a1]) (by simpa [A0,NT] using h 1 _ rfl);obtain ⟨n2,e2,w2⟩:=mH (m:=m) (cs:=[a2]) (by simpa [A0,NT] using h 2 _ rfl);obtain ⟨n3,e3⟩:=WB (m:=m) (cs:=[a3]) (by simpa [A0,NT] using h 3 _ rfl);obtain ⟨n4,e4,w4⟩:=mH (m:=m) (cs:=[a4]) (by simpa [A0,NT] using h 4 _ rfl);obtain ⟨n5,e5,w5⟩:=mH (m:=m) (cs:=[a5]) (by simpa [A0,NT] using h 5 _ rfl);simp only [List.cons.injEq,and_true] at e0 e1 e2 e3 e4 e5;subst e0 e1 e2 e3 e4 e5;exact ⟨⟨n0,n1,n2,n3,n4,n5⟩,rfl,w5⟩
section
variable {H:Type} {enc:TypeId×Value->H} {W:World} {base:Nat} {v:Value} {d:DataW H} {ps:List MemPlace}
theorem SE (hv:Value.okWide Tryz.prog W .any base 27 v) (h:DataW.Trod enc Tryz.prog W 0 (λ_=>true) true 27 v d ps):∃c:kN,v=.agg #[I c.bs,I c.f,I c.g,.float .f64 c.d,I c.ph,I c.dh]/\i64 c.dh:=by
 obtain ⟨cs,rfl⟩:=sR Tryz.underlying27 hv;obtain ⟨c,e,w⟩:=WC (m:=0) (B_ h 2);refine ⟨c,?_,w⟩;have e':cs=#[I c.bs,I c.f,I c.g,.float .f64 c.d,I c.ph,I c.dh]:=Array.toList_inj.1 (by rw [<-e]; rfl);rw [e']
theorem SF (hv:Value.okWide Tryz.prog W .any base 3 v) (h:DataW.Trod enc Tryz.prog W 0 (λ_=>true) true 3 v d ps):∃n,v=I n/\i64 n:=by
 obtain ⟨n,e,w⟩:=mH (m:=0) (B_ h 1);refine ⟨n,?_,w⟩;have e:v.cells.toList=[I n]:=e;cases v with
 | agg cs=>
  unfold Value.okWide at hv;rw [Tryz.underlying3] at hv;simp [Cell.okWide,Cell.ok,Tryz.underlying3] at hv
 | _=>exact (List.cons.inj e).1
end
end Sv
namespace Sv
open Go Vc T Go.ChangeShapes Go.WideShapes Go.ChangeAt Go.RowKit
open bp
theorem xX (os:Os) (started:os.Started) (H:Type) (enc:TypeId×Value->H) (F:Stop.Interp) :
  ReturnsInHanded {} Tryz.checked os 5 .any ((Rows.OpenSpec.upto Rows.solveFewSpec).pre6 enc Tryz.prog Tryz.f5 Rows.solveFewUptoRow.domain false) (((Rows.OpenSpec.upto Rows.solveFewSpec).at F).post enc Tryz.prog Tryz.f5 false true false false):=by
 refine yT (C:=Tryz.checked) (tb:=4) (by kernel_rfl) started (by kernel_rfl) Tryz.func5
  (OpenSpec.witness (enc:=enc) (C:=Tryz.checked) (s:=Rows.OpenSpec.upto Rows.solveFewSpec) (k:=Rows.uptoSmall) rfl false ⟨#[],#[.agg #[.int .i64 0,.slice none 0 0],.agg #[.int .i64 0,.int .i64 0,.int .i64 0,.float .f64 0,.int .i64 0,.int .i64 0],.int .i64 0],[]⟩ 12 (by kernel_rfl) (by kernel_rfl) (by kernel_rfl)
   (x:=([.agg [.lit (.int .i64 0),.nil],.agg [.lit (.int .i64 0),.lit (.int .i64 0),.lit (.int .i64 0),.lit (.float .f64 0),.lit (.int .i64 0),.lit (.int .i64 0)],.lit (.int .i64 0)],[],[])) (by kernel_rfl) (by kernel_rfl) (by first | kernel_rfl | simp [Rows.uptoSmall,Rows.uptoBulkAll,Rows.uptoBulk]))
  (by kernel_rfl) (by kernel_rfl) rfl (by kernel_rfl) Tryz.underlying4 ?_ ?_
 ·intro ds hd;match ds,hd with
  | [d0,d1,d2],_=>exact ⟨rfl,rfl,rfl⟩
 ·intro W base args ds ps tS hA hB;have Oo:DataW.TrodAll enc Tryz.prog W 0 (λ_=>true) true Tryz.f5.params.toList args.toList ds ps:=hA;rw [Tryz.params5] at Oo tS;obtain ⟨v0,vs0,d0,ds0,p0,q0,YL,rfl,rfl,h0,r0⟩:=trodAll_cons Oo;obtain ⟨v1,vs1,d1,ds1,p1,q1,rfl,rfl,rfl,h1,r1⟩:=trodAll_cons r0;obtain ⟨v2,vs2,d2,ds2,p2,q2,rfl,rfl,rfl,h2,r2⟩:=trodAll_cons r1;obtain ⟨rfl,rfl,rfl⟩:=trodAll_nil r2;obtain rfl:args=#[v0,v1,v2]:=by cases args; simp_all
  have XN:=tS 0 24 v0 rfl rfl;have wC:Rows.uptoBulk d0<=1048576:=Nat.le_trans (gy (by simp)) hB;have hv1:=tS 1 27 v1 rfl rfl;have um:Rows.uptoBulk d1<=1048576:=Nat.le_trans (gy (by simp)) hB;have hv2:=tS 2 3 v2 rfl rfl;have rN:Rows.uptoBulk d2<=1048576:=Nat.le_trans (gy (by simp)) hB;obtain ⟨nv,p,n,cp,av,rfl,dS,hC⟩:=Kq XN h0 wC;obtain ⟨c,rfl,hbu⟩:=SE hv1 h1;obtain ⟨x2,rfl,EN⟩:=SF hv2 h2;exact amS hC.rd (λ_ h=>h) hC.nb (λes h=>(hC.lb es h).1) c x2 EN
theorem A6:Rows.solveFewUptoRow.holds Tryz.pinned (Rows.OpenSpec.upto Rows.solveFewSpec):=
 OpenClaim.holds_of_cond 5 Tryz.f5 rfl rfl rfl rfl rfl rfl rfl ⟨rfl,rfl,rfl,rfl,rfl⟩ rfl rfl rfl rfl rfl (by kernel_rfl) Tryz.func5 (by kernel_rfl)
  (of_decide_eq_true (by kernel_rfl)) (by unfold Func.isWrapper; first | (rw [if_pos (by decide +kernel)]; kernel_rfl) | (rw [if_neg (by decide +kernel)]; exact ⟨rfl,rfl⟩))
  (λos started H enc _ F=>xX os started H enc F)
end Sv
theorem solveFew_holds:Rows.SolveFewUptoSaid:=Sv.A6
namespace Sv
open Go Vc T Go.ChangeShapes Go.WideShapes Go.ChangeAt Go.RowKit
open bp
theorem sO (os:Os) (started:os.Started) (H:Type) (enc:TypeId×Value->H) (F:Stop.Interp) :
  ReturnsInHanded {} Tryz.checked os 4 .any ((Rows.OpenSpec.upto Rows.solveBudgetsSpec).pre6 enc Tryz.prog Tryz.f4 Rows.solveBudgetsUptoRow.domain false) (((Rows.OpenSpec.upto Rows.solveBudgetsSpec).at F).post enc Tryz.prog Tryz.f4 false true false false):=by
 refine yT (C:=Tryz.checked) (tb:=4) (by kernel_rfl) started (by kernel_rfl) Tryz.func4
  (OpenSpec.witness (enc:=enc) (C:=Tryz.checked) (s:=Rows.OpenSpec.upto Rows.solveBudgetsSpec) (k:=Rows.uptoSmall) rfl false ⟨#[],#[.agg #[.int .i64 0,.slice none 0 0],.agg #[.int .i64 0,.int .i64 0,.int .i64 0,.float .f64 0,.int .i64 0,.int .i64 0],.int .i64 0],[]⟩ 12 (by kernel_rfl) (by kernel_rfl) (by kernel_rfl)
   (x:=([.agg [.lit (.int .i64 0),.nil],.agg [.lit (.int .i64 0),.lit (.int .i64 0),.lit (.int .i64 0),.lit (.float .f64 0),.lit (.int .i64 0),.lit (.int .i64 0)],.lit (.int .i64 0)],[],[])) (by kernel_rfl) (by kernel_rfl) (by first | kernel_rfl | simp [Rows.uptoSmall,Rows.uptoBulkAll,Rows.uptoBulk]))
  (by kernel_rfl) (by kernel_rfl) rfl (by kernel_rfl) Tryz.underlying4 ?_ ?_
 ·intro ds hd;match ds,hd with
  | [d0,d1,d2],_=>exact ⟨rfl,rfl,rfl⟩
 ·intro W base args ds ps tS hA hB;have Oo:DataW.TrodAll enc Tryz.prog W 0 (λ_=>true) true Tryz.f4.params.toList args.toList ds ps:=hA;rw [Tryz.params4] at Oo tS;obtain ⟨v0,vs0,d0,ds0,p0,q0,YL,rfl,rfl,h0,r0⟩:=trodAll_cons Oo;obtain ⟨v1,vs1,d1,ds1,p1,q1,rfl,rfl,rfl,h1,r1⟩:=trodAll_cons r0;obtain ⟨v2,vs2,d2,ds2,p2,q2,rfl,rfl,rfl,h2,r2⟩:=trodAll_cons r1;obtain ⟨rfl,rfl,rfl⟩:=trodAll_nil r2;obtain rfl:args=#[v0,v1,v2]:=by cases args; simp_all
  have XN:=tS 0 24 v0 rfl rfl;have wC:Rows.uptoBulk d0<=1048576:=Nat.le_trans (gy (by simp)) hB;have hv1:=tS 1 27 v1 rfl rfl;have um:Rows.uptoBulk d1<=1048576:=Nat.le_trans (gy (by simp)) hB;have hv2:=tS 2 3 v2 rfl rfl;have rN:Rows.uptoBulk d2<=1048576:=Nat.le_trans (gy (by simp)) hB;obtain ⟨nv,p,n,cp,av,rfl,dS,hC⟩:=Kq XN h0 wC;obtain ⟨c,rfl,hbu⟩:=SE hv1 h1;obtain ⟨x2,rfl,EN⟩:=SF hv2 h2;exact amV hC.rd (λ_ h=>h) hC.nb (λes h=>(hC.lb es h).1) c x2 EN
theorem vC:Rows.solveBudgetsUptoRow.holds Tryz.pinned (Rows.OpenSpec.upto Rows.solveBudgetsSpec):=
 OpenClaim.holds_of_cond 4 Tryz.f4 rfl rfl rfl rfl rfl rfl rfl ⟨rfl,rfl,rfl,rfl,rfl⟩ rfl rfl rfl rfl rfl (by kernel_rfl) Tryz.func4 (by kernel_rfl)
  (of_decide_eq_true (by kernel_rfl)) (by unfold Func.isWrapper; first | (rw [if_pos (by decide +kernel)]; kernel_rfl) | (rw [if_neg (by decide +kernel)]; exact ⟨rfl,rfl⟩))
  (λos started H enc _ F=>sO os started H enc F)
end Sv
theorem solveBudgets_holds:Rows.SolveBudgetsUptoSaid:=Sv.vC
namespace T
open Go Vc
def V19 (bM:Int) (bN:qA) (bE:Nat) (bG:Nat) (dZ:Int) (d_:qA) (iY:Nat) (iZ:Nat) (w:World) (R:qR):Prop:=
 cg w [qI bM,.slice bN bE bG] 24 λb2 w1=>
 cg w1 [qI dZ,.slice d_ iY iZ] 24 λb3 w2=>
 cg w2 [qI 0,.slice none 0 0] 24 λb4 w3=>
 aW .i64 w3 ((⟨b2,0,none⟩:Addr).add 0) λx6=>
 aZ w3 ((⟨b2,0,none⟩:Addr).add 1) λx7 wZ Bj=>
 qb 33 [.agg #[qI x6,.slice x7 wZ Bj]] w3 λx8 w4=>
 gd (α:=(Int×(qA×Nat×Nat)×Unit)) (!(!x8)) (λfD=>
  aW .i64 w4 ((⟨b3,0,none⟩:Addr).add 0) λfh=>
  aZ w4 ((⟨b3,0,none⟩:Addr).add 1) λdJ mP qw=>
  fD (fh,(dJ,mP,qw),()) w4) (0,(none,0,0),()) w4 λeV w5=>
 gd (α:=Bool) (!(!x8)) (λlq=>
  qb 33 [.agg #[qI eV.1,.slice eV.2.1.1 eV.2.1.2.1 eV.2.1.2.2]] w5 λeP w6=>
  lq eP w6) false w5 λfL w7=>
 bC (cond (!x8) true (!fL)) (
  st w7 ((⟨b4,0,none⟩:Addr).add 0) (qI 0) λw8=>
  st w8 ((⟨b4,0,none⟩:Addr).add 1) (.slice none 0 0) λw9=>
  aW .i64 w9 ((⟨b4,0,none⟩:Addr).add 0) λic=>
  aZ w9 ((⟨b4,0,none⟩:Addr).add 1) λeX gA pN=>
  R (.tuple #[.agg #[qI ic,.slice eX gA pN],qI 1]) w9) (
  aW .i64 w7.drew ((⟨b2,0,none⟩:Addr).add 0) λj5=>
  aW .i64 w7.drew ((⟨b3,0,none⟩:Addr).add 0) λiU=>
  aZ w7.drew ((⟨b2,0,none⟩:Addr).add 1) λlR Az AA=>
  aZ w7.drew ((⟨b3,0,none⟩:Addr).add 1) λiV xP zf=>
  qc 44 [.slice none 0 0,.slice lR Az AA] w7.drew λiT ji j8 cK=>
  (
   aZ cK ((⟨b3,0,none⟩:Addr).add 1) λiI ir jB=>
   ((.slice iI ir jB:Value)=.slice iV xP zf))/\
  (
   aW .i64 cK ((⟨b3,0,none⟩:Addr).add 0) λjN=>
   ((qI jN:Value)=qI iU))/\
  (
   aW .i64 cK ((⟨b2,0,none⟩:Addr).add 0) λjo=>
   ((qI jo:Value)=qI j5))/\
  qc 44 [.slice iT ji j8,.slice iV xP zf] cK λm_ Cg G9 dB=>
  (
   aW .i64 dB ((⟨b3,0,none⟩:Addr).add 0) λig=>
   ((qI ig:Value)=qI iU))/\
  (
   aW .i64 dB ((⟨b2,0,none⟩:Addr).add 0) λrJ=>
   ((qI rJ:Value)=qI j5))/\
  st dB ((⟨b4,0,none⟩:Addr).add 0) (qI (if iU>j5 then iU else j5)) λdF=>
  st dF ((⟨b4,0,none⟩:Addr).add 1) (.slice m_ Cg G9) λeA=>
  aW .i64 eA ((⟨b4,0,none⟩:Addr).add 0) λo_=>
  aZ eA ((⟨b4,0,none⟩:Addr).add 1) λlZ jk j9=>
  R (.tuple #[.agg #[qI o_,.slice lZ jk j9],qI 0]) eA)
theorem NU (bM bN bE bG dZ d_ iY iZ w R) (h:V19 bM bN bE bG dZ d_ iY iZ w R):qE 19 #[.agg #[qI bM,.slice bN bE bG],.agg #[qI dZ,.slice d_ iY iZ]] w R:=qv (.s .l (.s (.s .l (.c (.s .l .l) .l)) (.s (.d [0,1,0,4,15,0,32,96,0,256,992,2047,4095,8191]) .l))) Tryz.func19 (by kernel_rfl) (by kernel_rfl) h
theorem amY:br qQ 19:=by kernel_rfl
def V6 (bM:Int) (bN:qA) (bE:Nat) (bG:Nat) (dZ:Int) (d_:qA) (iY:Nat) (iZ:Nat) (w:World) (R:qR):Prop:=
 cg w [qI bM,.slice bN bE bG] 24 λb2 w1=>
 cg w1 [qI dZ,.slice d_ iY iZ] 24 λb3 w2=>
 qb 12 [] w2 λx5 w3=>
 bC (!x5) (
  R (.bool false) w3) (
  aW .i64 w3 ((⟨b2,0,none⟩:Addr).add 0) λx9=>
  aZ w3 ((⟨b2,0,none⟩:Addr).add 1) λdR iS mO=>
  aW .i64 w3 ((⟨b3,0,none⟩:Addr).add 0) λfh=>
  aZ w3 ((⟨b3,0,none⟩:Addr).add 1) λdJ mP qw=>
  cl Tryz.prog 19 [.agg #[qI x9,.slice dR iS mO],.agg #[qI fh,.slice dJ mP qw]] w3 λe16 w4=>∃eV:Int,∃(dV:qA) (fM gU:Nat),∃eP:Int,e16=Ending.returned (.tuple #[.agg #[qI eV,.slice dV fM gU],qI eP])/\
  cg w4 [qI 0,.slice none 0 0] 24 λgK w5=>
  st w5 ((⟨gK,0,none⟩:Addr).add 0) (qI eV) λw6=>
  st w6 ((⟨gK,0,none⟩:Addr).add 1) (.slice dV fM gU) λw7=>
  bC (eP != 0) (
   R (.bool true) w7) (
   jn (σ:=Int×Addr×Unit) (λEy=>
    aW .i64 w7.drew ((⟨b2,0,none⟩:Addr).add 0) λiV=>
    aZ w7.drew ((⟨b2,0,none⟩:Addr).add 1) λiT ji j8=>
    aW .i64 w7.drew ((⟨gK,0,none⟩:Addr).add 0) λjj=>
    aZ w7.drew ((⟨gK,0,none⟩:Addr).add 1) λiI ir jB=>
    (
     cl Tryz.prog 20 [] w7.drew λe34 w9=>∃jN:Int,∃jo:Int,∃m_:Int,∃uJ:Nat,∃ig:Int,∃rJ:Int,e34=Ending.returned (.agg #[qI jN,qI jo,qI m_,.float .f64 uJ,qI ig,qI rJ])/\
     (
      aW .i64 w9 ((⟨gK,0,none⟩:Addr).add 0) λlZ=>
      aZ w9 ((⟨gK,0,none⟩:Addr).add 1) λtW lD lE=>
      ((.agg #[qI lZ,.slice tW lD lE]:Value)=.agg #[qI jj,.slice iI ir jB]))/\
     (
      aW .i64 w9 ((⟨b2,0,none⟩:Addr).add 0) λnh=>
      aZ w9 ((⟨b2,0,none⟩:Addr).add 1) λpg Mt Mu=>
      ((.agg #[qI nh,.slice pg Mt Mu]:Value)=.agg #[qI iV,.slice iT ji j8]))/\
     (
      cl Tryz.prog 13 [.agg #[qI jj,.slice iI ir jB],.agg #[qI jN,qI jo,qI m_,.float .f64 uJ,qI ig,qI rJ]] w9 λe45 cK=>∃yh:Int,∃Dj:Int,∃tY:Int,∃oC:Nat,∃pL:Int,∃j_:Int,e45=Ending.returned (.agg #[qI yh,qI Dj,qI tY,.float .f64 oC,qI pL,qI j_])/\
      (
       aW .i64 cK ((⟨b2,0,none⟩:Addr).add 0) λtX=>
       aZ cK ((⟨b2,0,none⟩:Addr).add 1) λnA Hg AB=>
       ((.agg #[qI tX,.slice nA Hg AB]:Value)=.agg #[qI iV,.slice iT ji j8]))/\
      (
       cl Tryz.prog 14 [.agg #[qI iV,.slice iT ji j8],.agg #[qI yh,qI Dj,qI tY,.float .f64 oC,qI pL,qI j_]] cK λe53 dB=>∃CC:Int,∃(ng:qA) (uE uF:Nat),∃(vY:qA) (AH Ek:Nat),∃xM:Int,∃xN:Int,e53=Ending.returned (.tuple #[.agg #[qI CC,.slice ng uE uF,.slice vY AH Ek,qI xM],qI xN])/\
       cg dB [qI 0,.slice none 0 0,.slice none 0 0,qI 0] 33 λb54 dF=>
       (
        aW .i64 dF ((⟨gK,0,none⟩:Addr).add 0) λBq=>
        aZ dF ((⟨gK,0,none⟩:Addr).add 1) λBt EH EI=>
        ((.agg #[qI Bq,.slice Bt EH EI]:Value)=.agg #[qI jj,.slice iI ir jB]))/\
       (
        aW .i64 dF ((⟨b2,0,none⟩:Addr).add 0) λxe=>
        aZ dF ((⟨b2,0,none⟩:Addr).add 1) λBr y_ Cv=>
        ((.agg #[qI xe,.slice Br y_ Cv]:Value)=.agg #[qI iV,.slice iT ji j8]))/\
       st dF ((⟨b54,0,none⟩:Addr).add 0) (qI CC) λeA=>
       st eA ((⟨b54,0,none⟩:Addr).add 1) (.slice ng uE uF) λeG=>
       st eG ((⟨b54,0,none⟩:Addr).add 2) (.slice vY AH Ek) λgT=>
       st gT ((⟨b54,0,none⟩:Addr).add 3) (qI xM) λeM=>
       Ey (xN,(⟨b54,0,none⟩:Addr),()) eM)/\
      (
       cg cK [qI 0,.slice none 0 0,.slice none 0 0,qI 0] 33 λb59 fe=>
       (
        aW .i64 fe ((⟨gK,0,none⟩:Addr).add 0) λvH=>
        aZ fe ((⟨gK,0,none⟩:Addr).add 1) λHD Qf Qg=>
        ((.agg #[qI vH,.slice HD Qf Qg]:Value)=.agg #[qI jj,.slice iI ir jB]))/\
       (
        aW .i64 fe ((⟨b2,0,none⟩:Addr).add 0) λzb=>
        aZ fe ((⟨b2,0,none⟩:Addr).add 1) λOa UK aax=>
        ((.agg #[qI zb,.slice Oa UK aax]:Value)=.agg #[qI iV,.slice iT ji j8]))/\
       cl Tryz.prog 14 [.agg #[qI iV,.slice iT ji j8],.agg #[qI yh,qI Dj,qI tY,.float .f64 oC,qI pL,qI j_]] fe λe69 gB=>∃Dl:Int,∃(Bs:qA) (AL CA:Nat),∃(v_:qA) (EE HP:Nat),∃Dk:Int,∃pU:Int,e69=Ending.returned (.tuple #[.agg #[qI Dl,.slice Bs AL CA,.slice v_ EE HP,qI Dk],qI pU])/\
       st gB ((⟨b59,0,none⟩:Addr).add 0) (qI Dl) λfV=>
       st fV ((⟨b59,0,none⟩:Addr).add 1) (.slice Bs AL CA) λnF=>
       st nF ((⟨b59,0,none⟩:Addr).add 2) (.slice v_ EE HP) λog=>
       st og ((⟨b59,0,none⟩:Addr).add 3) (qI Dk) λxh=>
       Ey (pU,(⟨b59,0,none⟩:Addr),()) xh))/\
     (
      cg w9 [qI 0,.slice none 0 0,.slice none 0 0,qI 0] 33 λb70 mV=>
      (
       aW .i64 mV ((⟨gK,0,none⟩:Addr).add 0) λJO=>
       aZ mV ((⟨gK,0,none⟩:Addr).add 1) λJU US UT=>
       ((.agg #[qI JO,.slice JU US UT]:Value)=.agg #[qI jj,.slice iI ir jB]))/\
      (
       aW .i64 mV ((⟨b2,0,none⟩:Addr).add 0) λUU=>
       aZ mV ((⟨b2,0,none⟩:Addr).add 1) λQl Mz MA=>
       ((.agg #[qI UU,.slice Ql Mz MA]:Value)=.agg #[qI iV,.slice iT ji j8]))/\
      cl Tryz.prog 13 [.agg #[qI jj,.slice iI ir jB],.agg #[qI jN,qI jo,qI m_,.float .f64 uJ,qI ig,qI rJ]] mV λe81 nG=>∃UM:Int,∃UP:Int,∃Qt:Int,∃Tc:Nat,∃EF:Int,∃S_:Int,e81=Ending.returned (.agg #[qI UM,qI UP,qI Qt,.float .f64 Tc,qI EF,qI S_])/\
      (
       aW .i64 nG ((⟨b2,0,none⟩:Addr).add 0) λPx=>
       aZ nG ((⟨b2,0,none⟩:Addr).add 1) λGa Qm Qn=>
       ((.agg #[qI Px,.slice Ga Qm Qn]:Value)=.agg #[qI iV,.slice iT ji j8]))/\
      cl Tryz.prog 14 [.agg #[qI iV,.slice iT ji j8],.agg #[qI UM,qI UP,qI Qt,.float .f64 Tc,qI EF,qI S_]] nG λe89 jq=>∃x84:Int,∃(Tg:qA) (UW UX:Nat),∃(Th:qA) (EJ EK:Nat),∃Xh:Int,∃Dm:Int,e89=Ending.returned (.tuple #[.agg #[qI x84,.slice Tg UW UX,.slice Th EJ EK,qI Xh],qI Dm])/\
      st jq ((⟨b70,0,none⟩:Addr).add 0) (qI x84) λza=>
      st za ((⟨b70,0,none⟩:Addr).add 1) (.slice Tg UW UX) λEo=>
      st Eo ((⟨b70,0,none⟩:Addr).add 2) (.slice Th EJ EK) λJP=>
      st JP ((⟨b70,0,none⟩:Addr).add 3) (qI Xh) λEp=>
      Ey (Dm,(⟨b70,0,none⟩:Addr),()) Ep))/\
    (
     cg w7.drew [qI 0,.slice none 0 0,.slice none 0 0,qI 0] 33 λb90 xg=>
     (
      aW .i64 xg ((⟨gK,0,none⟩:Addr).add 0) λx91=>
      aZ xg ((⟨gK,0,none⟩:Addr).add 1) λXT acj ack=>
      ((.agg #[qI x91,.slice XT acj ack]:Value)=.agg #[qI jj,.slice iI ir jB]))/\
     (
      aW .i64 xg ((⟨b2,0,none⟩:Addr).add 0) λx93=>
      aZ xg ((⟨b2,0,none⟩:Addr).add 1) λXi Py Ug=>
      ((.agg #[qI x93,.slice Xi Py Ug]:Value)=.agg #[qI iV,.slice iT ji j8]))/\
     cl Tryz.prog 20 [] xg λamZ yp=>∃NP:Int,∃ZN:Int,∃Ve:Int,∃ZO:Nat,∃Md:Int,∃ahD:Int,amZ=Ending.returned (.agg #[qI NP,qI ZN,qI Ve,.float .f64 ZO,qI Md,qI ahD])/\
     (
      aW .i64 yp ((⟨gK,0,none⟩:Addr).add 0) λPz=>
      aZ yp ((⟨gK,0,none⟩:Addr).add 1) λQK ET EU=>
      ((.agg #[qI Pz,.slice QK ET EU]:Value)=.agg #[qI jj,.slice iI ir jB]))/\
     (
      aW .i64 yp ((⟨b2,0,none⟩:Addr).add 0) λPB=>
      aZ yp ((⟨b2,0,none⟩:Addr).add 1) λQL QM QN=>
      ((.agg #[qI PB,.slice QL QM QN]:Value)=.agg #[qI iV,.slice iT ji j8]))/\
     cl Tryz.prog 13 [.agg #[qI jj,.slice iI ir jB],.agg #[qI NP,qI ZN,qI Ve,.float .f64 ZO,qI Md,qI ahD]] yp λam0 Er=>∃ahE:Int,∃ahF:Int,∃Me:Int,∃Mf:Nat,∃Uj:Int,∃Vi:Int,am0=Ending.returned (.agg #[qI ahE,qI ahF,qI Me,.float .f64 Mf,qI Uj,qI Vi])/\
     (
      aW .i64 Er ((⟨b2,0,none⟩:Addr).add 0) λZQ=>
      aZ Er ((⟨b2,0,none⟩:Addr).add 1) λam1 ahG ahH=>
      ((.agg #[qI ZQ,.slice am1 ahG ahH]:Value)=.agg #[qI iV,.slice iT ji j8]))/\
     cl Tryz.prog 14 [.agg #[qI iV,.slice iT ji j8],.agg #[qI ahE,qI ahF,qI Me,.float .f64 Mf,qI Uj,qI Vi]] Er λam2 JQ=>∃Uk:Int,∃(Ul:qA) (YM YN:Nat),∃(ahI:qA) (YO YP:Nat),∃ahJ:Int,∃Um:Int,am2=Ending.returned (.tuple #[.agg #[qI Uk,.slice Ul YM YN,.slice ahI YO YP,qI ahJ],qI Um])/\
     st JQ ((⟨b90,0,none⟩:Addr).add 0) (qI Uk) λEt=>
     st Et ((⟨b90,0,none⟩:Addr).add 1) (.slice Ul YM YN) λXl=>
     st Xl ((⟨b90,0,none⟩:Addr).add 2) (.slice ahI YO YP) λw36=>
     st w36 ((⟨b90,0,none⟩:Addr).add 3) (qI ahJ) λXm=>
     Ey (Um,(⟨b90,0,none⟩:Addr),()) Xm)) λs23 w8=>match s23 with
   | (v20,v21,_)=>
   jn (σ:=Addr×Int×Unit) (λWD=>
    aW .i64 w8.drew ((⟨gK,0,none⟩:Addr).add 0) λwP=>
    aZ w8.drew ((⟨gK,0,none⟩:Addr).add 1) λsK nX nY=>
    aW .i64 w8.drew ((⟨gK,0,none⟩:Addr).add 0) λDf=>
    aZ w8.drew ((⟨gK,0,none⟩:Addr).add 1) λsF nH nJ=>
    (
     cl Tryz.prog 20 [] w8.drew λam3 PI=>∃QT:Int,∃PG:Int,∃Mg:Int,∃Eu:Nat,∃acq:Int,∃acr:Int,am3=Ending.returned (.agg #[qI QT,qI PG,qI Mg,.float .f64 Eu,qI acq,qI acr])/\
     (
      aW .i64 PI ((⟨gK,0,none⟩:Addr).add 0) λam4=>
      aZ PI ((⟨gK,0,none⟩:Addr).add 1) λam5 ahK ahL=>
      ((.agg #[qI am4,.slice am5 ahK ahL]:Value)=.agg #[qI Df,.slice sF nH nJ]))/\
     (
      aW .i64 PI ((⟨gK,0,none⟩:Addr).add 0) λZU=>
      aZ PI ((⟨gK,0,none⟩:Addr).add 1) λam6 ahM ahN=>
      ((.agg #[qI ZU,.slice am6 ahM ahN]:Value)=.agg #[qI wP,.slice sK nX nY]))/\
     (
      cl Tryz.prog 13 [.agg #[qI Df,.slice sF nH nJ],.agg #[qI QT,qI PG,qI Mg,.float .f64 Eu,qI acq,qI acr]] PI λam7 Mh=>∃acs:Int,∃acu:Int,∃Uo:Int,∃acv:Nat,∃PK:Int,∃acw:Int,am7=Ending.returned (.agg #[qI acs,qI acu,qI Uo,.float .f64 acv,qI PK,qI acw])/\
      (
       aW .i64 Mh ((⟨gK,0,none⟩:Addr).add 0) λZW=>
       aZ Mh ((⟨gK,0,none⟩:Addr).add 1) λam8 ahO ahP=>
       ((.agg #[qI ZW,.slice am8 ahO ahP]:Value)=.agg #[qI wP,.slice sK nX nY]))/\
      (
       cl Tryz.prog 14 [.agg #[qI wP,.slice sK nX nY],.agg #[qI acs,qI acu,qI Uo,.float .f64 acv,qI PK,qI acw]] Mh λam9 w41=>∃Up:Int,∃(Uq:qA) (JR PM:Nat),∃(ahQ:qA) (YQ YR:Nat),∃Ur:Int,∃ahR:Int,am9=Ending.returned (.tuple #[.agg #[qI Up,.slice Uq JR PM,.slice ahQ YQ YR,qI Ur],qI ahR])/\
       cg w41 [qI 0,.slice none 0 0,.slice none 0 0,qI 0] 33 λSG ZV=>
       (
        aW .i64 ZV ((⟨gK,0,none⟩:Addr).add 0) λana=>
        aZ ZV ((⟨gK,0,none⟩:Addr).add 1) λZX ahS ahT=>
        ((.agg #[qI ana,.slice ZX ahS ahT]:Value)=.agg #[qI Df,.slice sF nH nJ]))/\
       (
        aW .i64 ZV ((⟨gK,0,none⟩:Addr).add 0) λZY=>
        aZ ZV ((⟨gK,0,none⟩:Addr).add 1) λZZ ahU ahV=>
        ((.agg #[qI ZY,.slice ZZ ahU ahV]:Value)=.agg #[qI wP,.slice sK nX nY]))/\
       st ZV ((⟨SG,0,none⟩:Addr).add 0) (qI Up) λw43=>
       st w43 ((⟨SG,0,none⟩:Addr).add 1) (.slice Uq JR PM) λw44=>
       st w44 ((⟨SG,0,none⟩:Addr).add 2) (.slice ahQ YQ YR) λw45=>
       st w45 ((⟨SG,0,none⟩:Addr).add 3) (qI Ur) λw46=>
       WD ((⟨SG,0,none⟩:Addr),ahR,()) w46)/\
      (
       cg Mh [qI 0,.slice none 0 0,.slice none 0 0,qI 0] 33 λSH Xn=>
       (
        aW .i64 Xn ((⟨gK,0,none⟩:Addr).add 0) λZ0=>
        aZ Xn ((⟨gK,0,none⟩:Addr).add 1) λZ1 ahW ahX=>
        ((.agg #[qI Z0,.slice Z1 ahW ahX]:Value)=.agg #[qI Df,.slice sF nH nJ]))/\
       (
        aW .i64 Xn ((⟨gK,0,none⟩:Addr).add 0) λanb=>
        aZ Xn ((⟨gK,0,none⟩:Addr).add 1) λanc ahY ahZ=>
        ((.agg #[qI anb,.slice anc ahY ahZ]:Value)=.agg #[qI wP,.slice sK nX nY]))/\
       cl Tryz.prog 14 [.agg #[qI wP,.slice sK nX nY],.agg #[qI acs,qI acu,qI Uo,.float .f64 acv,qI PK,qI acw]] Xn λane w48=>∃Ut:Int,∃(ah0:qA) (YS YT:Nat),∃(ah1:qA) (YU YV:Nat),∃ah2:Int,∃ah3:Int,ane=Ending.returned (.tuple #[.agg #[qI Ut,.slice ah0 YS YT,.slice ah1 YU YV,qI ah2],qI ah3])/\
       st w48 ((⟨SH,0,none⟩:Addr).add 0) (qI Ut) λw49=>
       st w49 ((⟨SH,0,none⟩:Addr).add 1) (.slice ah0 YS YT) λw50=>
       st w50 ((⟨SH,0,none⟩:Addr).add 2) (.slice ah1 YU YV) λw51=>
       st w51 ((⟨SH,0,none⟩:Addr).add 3) (qI ah2) λw52=>
       WD ((⟨SH,0,none⟩:Addr),ah3,()) w52))/\
     (
      cg PI [qI 0,.slice none 0 0,.slice none 0 0,qI 0] 33 λSI JS=>
      (
       aW .i64 JS ((⟨gK,0,none⟩:Addr).add 0) λanf=>
       aZ JS ((⟨gK,0,none⟩:Addr).add 1) λang ah4 ah5=>
       ((.agg #[qI anf,.slice ang ah4 ah5]:Value)=.agg #[qI Df,.slice sF nH nJ]))/\
      (
       aW .i64 JS ((⟨gK,0,none⟩:Addr).add 0) λPO=>
       aZ JS ((⟨gK,0,none⟩:Addr).add 1) λanh ah6 ah7=>
       ((.agg #[qI PO,.slice anh ah6 ah7]:Value)=.agg #[qI wP,.slice sK nX nY]))/\
      cl Tryz.prog 13 [.agg #[qI Df,.slice sF nH nJ],.agg #[qI QT,qI PG,qI Mg,.float .f64 Eu,qI acq,qI acr]] JS λani w54=>∃Uu:Int,∃PU:Int,∃Uv:Int,∃ah8:Nat,∃ah9:Int,∃Uw:Int,ani=Ending.returned (.agg #[qI Uu,qI PU,qI Uv,.float .f64 ah8,qI ah9,qI Uw])/\
      (
       aW .i64 w54 ((⟨gK,0,none⟩:Addr).add 0) λanj=>
       aZ w54 ((⟨gK,0,none⟩:Addr).add 1) λZ5 PV PW=>
       ((.agg #[qI anj,.slice Z5 PV PW]:Value)=.agg #[qI wP,.slice sK nX nY]))/\
      cl Tryz.prog 14 [.agg #[qI wP,.slice sK nX nY],.agg #[qI Uu,qI PU,qI Uv,.float .f64 ah8,qI ah9,qI Uw]] w54 λank w55=>∃aia:Int,∃(aib:qA) (YW YX:Nat),∃(aic:qA) (YY YZ:Nat),∃Z6:Int,∃aid:Int,ank=Ending.returned (.tuple #[.agg #[qI aia,.slice aib YW YX,.slice aic YY YZ,qI Z6],qI aid])/\
      st w55 ((⟨SI,0,none⟩:Addr).add 0) (qI aia) λw56=>
      st w56 ((⟨SI,0,none⟩:Addr).add 1) (.slice aib YW YX) λw57=>
      st w57 ((⟨SI,0,none⟩:Addr).add 2) (.slice aic YY YZ) λw58=>
      st w58 ((⟨SI,0,none⟩:Addr).add 3) (qI Z6) λw59=>
      WD ((⟨SI,0,none⟩:Addr),aid,()) w59))/\
    (
     cg w8.drew [qI 0,.slice none 0 0,.slice none 0 0,qI 0] 33 λHz UB=>
     (
      aW .i64 UB ((⟨gK,0,none⟩:Addr).add 0) λZ7=>
      aZ UB ((⟨gK,0,none⟩:Addr).add 1) λZ8 PY Xp=>
      ((.agg #[qI Z7,.slice Z8 PY Xp]:Value)=.agg #[qI Df,.slice sF nH nJ]))/\
     (
      aW .i64 UB ((⟨gK,0,none⟩:Addr).add 0) λanl=>
      aZ UB ((⟨gK,0,none⟩:Addr).add 1) λZ9 aie aif=>
      ((.agg #[qI anl,.slice Z9 aie aif]:Value)=.agg #[qI wP,.slice sK nX nY]))/\
     cl Tryz.prog 20 [] UB λanm Xs=>∃Ux:Int,∃aih:Int,∃Uy:Int,∃aii:Nat,∃aij:Int,∃aik:Int,anm=Ending.returned (.agg #[qI Ux,qI aih,qI Uy,.float .f64 aii,qI aij,qI aik])/\
     (
      aW .i64 Xs ((⟨gK,0,none⟩:Addr).add 0) λZ_=>
      aZ Xs ((⟨gK,0,none⟩:Addr).add 1) λaaa ail aim=>
      ((.agg #[qI Z_,.slice aaa ail aim]:Value)=.agg #[qI Df,.slice sF nH nJ]))/\
     (
      aW .i64 Xs ((⟨gK,0,none⟩:Addr).add 0) λaab=>
      aZ Xs ((⟨gK,0,none⟩:Addr).add 1) λann ain aio=>
      ((.agg #[qI aab,.slice ann ain aio]:Value)=.agg #[qI wP,.slice sK nX nY]))/\
     cl Tryz.prog 13 [.agg #[qI Df,.slice sF nH nJ],.agg #[qI Ux,qI aih,qI Uy,.float .f64 aii,qI aij,qI aik]] Xs λano Xu=>∃Uz:Int,∃UA:Int,∃PZ:Int,∃UC:Nat,∃aip:Int,∃aiq:Int,ano=Ending.returned (.agg #[qI Uz,qI UA,qI PZ,.float .f64 UC,qI aip,qI aiq])/\
     (
      aW .i64 Xu ((⟨gK,0,none⟩:Addr).add 0) λanp=>
      aZ Xu ((⟨gK,0,none⟩:Addr).add 1) λanq air ais=>
      ((.agg #[qI anp,.slice anq air ais]:Value)=.agg #[qI wP,.slice sK nX nY]))/\
     cl Tryz.prog 14 [.agg #[qI wP,.slice sK nX nY],.agg #[qI Uz,qI UA,qI PZ,.float .f64 UC,qI aip,qI aiq]] Xu λanr w63=>∃ait:Int,∃(aiu:qA) (Y0 Y3:Nat),∃(aiv:qA) (Y4 Y5:Nat),∃aiw:Int,∃aix:Int,anr=Ending.returned (.tuple #[.agg #[qI ait,.slice aiu Y0 Y3,.slice aiv Y4 Y5,qI aiw],qI aix])/\
     st w63 ((⟨Hz,0,none⟩:Addr).add 0) (qI ait) λw64=>
     st w64 ((⟨Hz,0,none⟩:Addr).add 1) (.slice aiu Y0 Y3) λw65=>
     st w65 ((⟨Hz,0,none⟩:Addr).add 2) (.slice aiv Y4 Y5) λw66=>
     st w66 ((⟨Hz,0,none⟩:Addr).add 3) (qI aiw) λTa=>
     WD ((⟨Hz,0,none⟩:Addr),aix,()) Ta)) λans Un=>match ans with
   | (FZ,Jo,_)=>
   gd (α:=Int) (cond (v20==0) (Jo==0) false) (λant=>
    aW .i64 Un (v21.add 0) λaaf=>
    ant aaf Un) 0 Un λP5 w68=>
   gd (α:=Int) ((cond (v20==0) (Jo==0) false)&&(!(P5==3))) (λanu=>
    aW .i64 w68 (FZ.add 0) λanv=>
    anu anv w68) 0 w68 λanw w69=>
   bC (cond (cond (v20==0) (Jo==0) false) (cond (P5==3) true (anw==3)) false) (
    aW .i64 w69 ((⟨gK,0,none⟩:Addr).add 0) λanx=>
    R (.bool (decide (anx>20))) w69) (
    gd (α:=Int) (!(cond (v20 != 0) true (Jo != 0))) (λanA=>
     aW .i64 w69 (v21.add 0) λanB=>
     anA anB w69) 0 w69 λaiy w70=>
    gd (α:=Int) ((!(cond (v20 != 0) true (Jo != 0)))&&(aiy==2)) (λanC=>
     aW .i64 w70 (FZ.add 0) λadY=>
     anC adY w70) 0 w70 λanD xk=>
    bC (cond (cond (v20 != 0) true (Jo != 0)) true (cond (aiy==2) (anD != 2) false)) (
     R (.bool false) xk) (
     aW .i64 xk (FZ.add 0) λaag=>
     bC (aag==2) (
      R (.bool true) xk) (
      aW .i64 xk.drew (FZ.add 0) λwQ=>
      gd (α:=(qA×Nat×Nat)) (wQ==1) (λanE=>
       aZ xk.drew (FZ.add 1) λaah P8 Xv=>
       anE (aah,P8,Xv) xk.drew) (none,0,0) xk.drew λAh _=>
      gd (α:=Int) (wQ==1) (λanF=>
       aW .i64 xk.drew ((⟨gK,0,none⟩:Addr).add 0) λanG=>
       anF anG xk.drew) 0 xk.drew λAi _=>
      gd (α:=(Int×(qA×Nat×Nat)×Unit)) (cond (wQ==1) ((Ah.2.1:Int)==Ai) false) (λanH=>
       aW .i64 xk.drew ((⟨b2,0,none⟩:Addr).add 0) λUD=>
       aZ xk.drew ((⟨b2,0,none⟩:Addr).add 1) λaai aiz aiA=>
       anH (UD,(aai,aiz,aiA),()) xk.drew) (0,(none,0,0),()) xk.drew λMi _=>
      gd (α:=(qA×Nat×Nat)) (cond (wQ==1) ((Ah.2.1:Int)==Ai) false) (λanI=>
       aZ xk.drew (FZ.add 1) λaaj aiB aiC=>
       anI (aaj,aiB,aiC) xk.drew) (none,0,0) xk.drew λMj _=>
      gd (α:=Int) (cond (wQ==1) ((Ah.2.1:Int)==Ai) false) (λanJ=>
       aW .i64 xk.drew ((⟨b2,0,none⟩:Addr).add 0) λanK=>
       anJ anK xk.drew) 0 xk.drew λP_ _=>
      gd (α:=(qA×Nat×Nat)) (cond (wQ==1) ((Ah.2.1:Int)==Ai) false) (λanL=>
       (0:Int)<=P_/\P_<=(Mj.2.2:Int)/\
       anL ((jZ Mj.1 Mj.2.2 0 1),((Int.toNat P_) - 0),(Mj.2.2 - 0)) xk.drew) (none,0,0) xk.drew λacy _=>
      gd (α:=Bool) (cond (wQ==1) ((Ah.2.1:Int)==Ai) false) (λanM=>
       qb 21 [.agg #[qI Mi.1,.slice Mi.2.1.1 Mi.2.1.2.1 Mi.2.1.2.2],.slice acy.1 acy.2.1 acy.2.2] xk.drew λanN w72=>
       anM anN w72) false xk.drew λNV Cw=>
      gd (α:=(Int×(qA×Nat×Nat)×Unit)) (cond (cond (wQ==1) ((Ah.2.1:Int)==Ai) false) NV false) (λanO=>
       aW .i64 Cw ((⟨b3,0,none⟩:Addr).add 0) λanP=>
       aZ Cw ((⟨b3,0,none⟩:Addr).add 1) λQa Ew Ex=>
       anO (anP,(Qa,Ew,Ex),()) Cw) (0,(none,0,0),()) Cw λWE _=>
      gd (α:=(qA×Nat×Nat)) (cond (cond (wQ==1) ((Ah.2.1:Int)==Ai) false) NV false) (λanQ=>
       aZ Cw (FZ.add 1) λUE aiD aiE=>
       anQ (UE,aiD,aiE) Cw) (none,0,0) Cw λMl _=>
      gd (α:=Int) (cond (cond (wQ==1) ((Ah.2.1:Int)==Ai) false) NV false) (λanR=>
       aW .i64 Cw ((⟨b3,0,none⟩:Addr).add 0) λanS=>
       anR anS Cw) 0 Cw λQb _=>
      gd (α:=(qA×Nat×Nat)) (cond (cond (wQ==1) ((Ah.2.1:Int)==Ai) false) NV false) (λanT=>
       (0:Int)<=Qb/\Qb<=(Ml.2.2:Int)/\
       anT ((jZ Ml.1 Ml.2.2 0 1),((Int.toNat Qb) - 0),(Ml.2.2 - 0)) Cw) (none,0,0) Cw λacz _=>
      gd (α:=Bool) (cond (cond (wQ==1) ((Ah.2.1:Int)==Ai) false) NV false) (λanU=>
       qb 21 [.agg #[qI WE.1,.slice WE.2.1.1 WE.2.1.2.1 WE.2.1.2.2],.slice acz.1 acz.2.1 acz.2.2] Cw λanV w74=>
       anU anV w74) false Cw λanW w75=>
      R (.bool (cond (cond (cond (wQ==1) ((Ah.2.1:Int)==Ai) false) NV false) anW false)) w75)))))
theorem SJ (bM bN bE bG dZ d_ iY iZ w R) (h:V6 bM bN bE bG dZ d_ iY iZ w R):qE 6 #[.agg #[qI bM,.slice bN bE bG],.agg #[qI dZ,.slice d_ iY iZ]] w R:=qv (.s .l (.s (.s .l (.c (.s .l .l) .l)) (.s .l (.s (.s .l (.c (.s .l .l) .l)) (.s (.j [(6,.one (.int .i64)),(7,.Dg)] (.d [0,0,0,6,15,31,63,63,0,383,1023])) (.s (.j [(8,.Dg),(9,.one (.int .i64))] (.d [0,0,0,6,15,31,63,63,0,383,1023])) (.s (.s .l (.c (.s .l .l) .l)) (.s (.s .l (.c (.s .l .l) .l)) (.s (.s .l (.c (.s .l .l) .l)) (.s (.d [0,1,3,7,15,31,63,15,143,511,1023,2047,4095,4095,12287,4095,36863,126975,262143,524287,1048575,2097151,2097151,6291455,2097151,18874367,65011711,134217727,268435455,536870911]) .l)))))))))) Tryz.func6 (by kernel_rfl) (by kernel_rfl) h
end T
namespace T
open Go Vc
def V44 (a0:qA) (bQ:Nat) (cF:Nat) (a1:qA) (dW:Nat) (fU:Nat) (w:World) (R:qR):Prop:=
 lp (σ:=(qA×Nat×Nat)×Int×Unit) (λs6 w1 k5=>match s6 with
  | ((v3,v3n,v3c),v4,_)=>
  bC (decide (v4<(dW:Int))) (
   cr a1 dW v4 1 λp9=>
   aZ w1 p9 λdR iS mO=>
   qp 59 #[.slice none 0 0,.slice dR iS mO] w1 λdJ mP qw w2=>
   cg w2 [.slice dJ mP qw] 59 λb13 w3=>
   qp 22 #[.slice v3 v3n v3c,.slice (some (⟨b13,0,none⟩:Addr)) 1 1] w3 λdV fM gU w4=>
   k5 ((dV,fM,gU),(IntKind.wrap .i64 (v4+1)),()) w4) (
   R (.slice v3 v3n v3c) w1)) ((a0,bQ,cF),0,()) w
theorem NW (a0 bQ cF a1 dW fU w R) (h:V44 a0 bQ cF a1 dW fU w R):qE 44 #[.slice a0 bQ cF,.slice a1 dW fU] w R:=qv (.s .l (.s (.s .l (.b (.o [(0,.one (.x_)),(9,.one (.int .i64))] (.s .l (.s (.c .l .l) (.s (.b (.s .l .l)) .l)))))) (.s .l .l))) Tryz.func44 (by kernel_rfl) (by kernel_rfl) h
theorem aiF:br qQ 44:=by kernel_rfl
end T
namespace bp
open Go Vc T
open bt (cQ aL aA bg aO aB Sl sv LL)
theorem WG {w:World} {q:Option Addr} {m d:Nat} {es:List Int} (hR:cQ w q m es) (hd:q=none->d=0) (hm:m<=8796093022208) {K:Option Addr->Nat->Nat->World->Prop}
  (hK:∀p' c' w',bR w' 3 1 p' m c' (es.map I)->(∀i,ob p' i->w.heap.size<=i)->af aq w w'->K p' m c' w') :
  ∃(p':Option Addr) (n' c':Nat),∃w':World,(Builtin.append_ #[59,59] 59 #[.slice none 0 0,.slice q m d]).run Tryz.prog w=.ok (.slice p' n' c') w'/\K p' n' c' w':=by
 have hN:ql w 1 q m d (es.map I):=by
  cases q with
  | none=>obtain ⟨rfl,rfl⟩:=zo hR; exact Or.inl ⟨rfl,rfl,hd rfl,rfl⟩
  | some a=>exact zm hR
 refine fI (e:=3) (sz:=1) (z:=I 0) (B:=8) Tryz.underlying59 (by kernel_rfl) rfl (by omega) (bR.nil _ _ _) hN (λu hu=>?_) (by simp only [maxLen]; omega) (by omega) λp' c' w' pT hd=>?_
 ·obtain ⟨y,_,rfl⟩:=List.mem_map.1 hu; rfl
 ·rw [List.nil_append,Nat.zero_add] at pT;rw [Nat.zero_add];rcases hd with ⟨rfl,_,_,k⟩ | ⟨e1,k⟩
  ·exact hK none c' w' pT (λi ⟨a,ha,_⟩=>by cases ha) (k.mono λi _ ⟨a,ha,_⟩=>by cases ha)
  ·exact hK p' c' w' pT e1 k
section
variable {Bl:Nat->Prop} {w0 w:World} {p:Option Addr} {n c:Nat} {av:List (List Int)}
theorem SK (hC:pP Bl w p n av) (nj:∀j,Bl j->j<w0.heap.size) (hl:∀es∈av,es.length<=8796093022208) (hw:af aq w0 w) {q:Option Addr} {m d:Nat} {hs:List Sl} {ds:List (List Int)} (hL:LL (sX w0) w q m d hs ds) (hm:m+n<=8796093022207) :
  Calls Tryz.prog 44 #[.slice q m d,.slice p n c] w λe w'=>∃q' d' Au,e=.returned (.slice q' (m+n) d')/\LL (sX w0) w' q' (m+n) d' Au (ds++av)/\af aq w0 w':=by
 refine (NW q m d p n c w (λv w'=>∃q' d' Au,v=.slice q' (m+n) d'/\LL (sX w0) w' q' (m+n) d' Au (ds++av)/\af aq w0 w') ?_).mono λe w' ⟨v,he,q',d',Au,hv,hk⟩=>⟨q',d',Au,by rw [he,hv],hk⟩
 unfold V44;have pM:=hC.len;refine bX (λs W=>∃(i:Nat) (hs:List Sl),s.2.1=i/\i<=n/\s.1.2.1=m+i/\LL (sX w0) W s.1.1 s.1.2.1 s.1.2.2 hs (ds++av.take i)/\af (sX w0) w W) (λs _=>(n - s.2.1).toNat) ⟨0,hs,rfl,Nat.zero_le _,rfl,by simpa using hL,af.refl _ _⟩ ?_;rintro ⟨⟨q,m',d⟩,i',⟨⟩⟩ w1 ⟨i,hs,rfl,hi,WQ,hL,k1⟩;dsimp only at WQ hL ⊢;subst WQ;have s0:=hw.size;refine aF (λaM=>?_) λbL=>?_
 ·have aM:i<n:=by simpa using aM
  obtain ⟨es,oH⟩:=bg (show i<av.length by omega);rw [aA i (by omega)];refine (hC.ax k1 λj hj hf=>by have:=nj j hj; have GI:w0.heap.size<=j:=hf; omega).ix oH λa q2 mm c2 ha dm _ hq=>au ha ?_;refine WG dm hq (by rw [<-dm.len]; exact hl es (List.mem_of_getElem? oH)) λp2 c2' w2 Cm Fc k2=>?_;refine aD λb w3 hb hB k3=>?_;have s1:=k1.size; have s2:=k2.size; have s3:=k3.size;have RB:=dm.len;have hL3:LL (λi=>w0.heap.size<=i/\i<w1.heap.size) w3 q (m+i) d hs (ds++av.take i):=((hL.mono (M':=λi=>w0.heap.size<=i/\i<w1.heap.size) λi h1 h2=>⟨h2,h1⟩).aa k2).aa k3;refine hL3.app (x:=(p2,mm,c2')) (M':=sX w0) (Cm.aa k3) (λj hj=>⟨by have:=Fc j hj; show w0.heap.size<=j; omega,λh=>by have:=Fc j hj; omega⟩) (λi h=>h.1) (by omega) hB λp' c' w' Tp k'=>?_;refine ⟨⟨i+1,hs++[(p2,mm,c2')],rfl,aM,rfl,?_,?_⟩,by omega⟩
  ·rw [List.take_add_one,oH,<-List.append_assoc];refine Tp.mono λi _ h=>?_;rcases h.2 with h | h
   ·exact h
   ·show w0.heap.size<=i; omega
  ·exact (((k1.trans k2 λ_ _ h=>h.elim).trans k3 λ_ _ h=>h.elim).trans k' λi hi h=>h.1)
 ·have bL:i=n:=by simp at bL; omega
  subst bL;rw [<-pM,List.take_length] at hL;rw [pM] at hL;exact ⟨q,d,hs,rfl,hL,hw.trans k1 λi hi h=>by have h':w0.heap.size<=i:=h; omega⟩
end
end bp
namespace Sv
open Go Vc T bp
open bt (cQ aL aA bg aO aB Sl sv LL)
section
variable {Bl:Nat->Prop} {w0 w:World} {p:Option Addr} {n c:Nat} {av:List (List Int)}
def uo (a b:Int):Int:=if b>a then b else a
theorem acA {nv nw:Int} {q:Option Addr} {m d:Nat} {ds:List (List Int)} (hC:pP Bl w p n av) (hD:pP Bl w q m ds) (nj:∀j,Bl j->j<w.heap.size) (hl:∀es∈av,es.length<=1048576) (zH:∀es∈ds,es.length<=1048576) (hn:n+m<=1048576) :
  Calls Tryz.prog 19 #[.agg #[I nv,.slice p n c],.agg #[I nw,.slice q m d]] w λe w'=>∃x p' n' d' r,e=.returned (.tuple #[.agg #[I x,.slice p' n' d'],I r])/\af aq w w'/\
   (r≠0\/(r=0/\bD nv av/\bD nw ds/\x=uo nv nw/\n'=n+m/\∃hs,LL (sX w) w' p' (n+m) d' hs (av++ds))):=by
 refine (NU nv p n c nw q m d w (λv w'=>∃x p' n' d' r,v=.tuple #[.agg #[I x,.slice p' n' d'],I r]/\af aq w w'/\
   (r≠0\/(r=0/\bD nv av/\bD nw ds/\x=uo nv nw/\n'=n+m/\∃hs,LL (sX w) w' p' (n+m) d' hs (av++ds)))) ?_).mono λe w' ⟨v,he,x,p',n',d',r,hv,hk⟩=>⟨x,p',n',d',r,by rw [he,hv],hk⟩
 unfold V19;refine aD λb2 w1 rN bH k1=>aD λb3 w2 R7 bP k2=>aD λb4 w3 hb4 gJ k3=>?_;have l2:=bH.lt; have l3:=bP.lt; have l4:=gJ.lt;have bH:=(bH.aa k2).aa k3;have bP:=bP.aa k3;have oF:=(k1.ak k2).ak k3;have s1:=k1.size; have s2:=k2.size; have s3:=k3.size;have JG:∀{xs:List (List Int)},(∀es∈xs,es.length<=1048576)->∀es∈xs,es.length<=17592186044416:=λh es he=>Nat.le_trans (h es he) (by omega);refine K0 bH (az O9 (qX (hC.aa oF) (show n<=_ by omega) (JG hl)) λe w4 ⟨r1,he,Ol,k4⟩=>⟨r1,he,?_⟩);have bH:=bH.aa k4;have bP:=bP.aa k4;have gJ:=gJ.aa k4;have uX:=oF.ak k4;have s4:=k4.size;have bad:∀W,af aq w4 W->st W ((⟨b4,0,none⟩:Addr).add 0) (.int .i64 0) λw8=>st w8 ((⟨b4,0,none⟩:Addr).add 1) (.slice none 0 0) λw9=>aW .i64 w9 ((⟨b4,0,none⟩:Addr).add 0) λic=>aZ w9 ((⟨b4,0,none⟩:Addr).add 1) λeX gA pN=>
   (λ(v:Value) w'=>∃x p' n' d' r,v=.tuple #[.agg #[I x,.slice p' n' d'],I r]/\af aq w w'/\(r≠0\/(r=0/\bD nv av/\bD nw ds/\x=uo nv nw/\n'=n+m/\∃hs,LL (sX w) w' p' (n+m) d' hs (av++ds)))) (.tuple #[.agg #[.int .i64 ic,.slice eX gA pN],.int .i64 1]) w9:=λW k=>by
  simp only [ag,Nat.zero_add];refine aG (gJ.aa k) (by simp) rfl λw5 hB k5 _=>aG hB (by simp) rfl λw6 hB k6 _=>ah (hB.cell 0) (au (hB.cell 1) ?_);exact ⟨_,_,_,_,1,rfl,((uX.ak k).bw k5 (by omega)).bw k6 (by omega),Or.inl (by decide)⟩
 cases r1 with
 | false=>exact a_ rfl (a_ rfl (aX rfl (bad w4 (af.refl _ _))))
 | true=>
 refine aS rfl (K0 bP (aS rfl ?_));refine az O9 (qX (hD.aa uX) (show m<=_ by omega) (JG zH)) λe w5 ⟨r2,he,Ko,k5⟩=>⟨r2,he,?_⟩
 cases r2 with
 | false=>exact aX rfl (bad w5 k5)
 | true=>
 have kd:af aq w5 w5.drew:=(af.refl aq w5).drew;have wz:=(uX.ak k5).ak kd;have bH:=(bH.aa k5).aa kd;have bP:=(bP.aa k5).aa kd;have gJ:=(gJ.aa k5).aa kd;have s5:w5.heap.size=w5.drew.heap.size:=rfl;have s5':=k5.size;refine aT rfl ?_;generalize w5.drew=w6 at *
 have c0:∀{b:Nat} {W:World} {x:Int} {q:Option Addr} {m d:Nat},b_ W b [I x,.slice q m d] 24->W.cell? ((⟨b,0,none⟩:Addr).add 0)=some (I x)/\W.cell? ((⟨b,0,none⟩:Addr).add 1)=some (.slice q m d):=λh=>by rw [ag,ag]; exact ⟨h.cell 0,h.cell 1⟩
 refine ah (c0 bH).1 (ah (c0 bP).1 (au (c0 bH).2 (au (c0 bP).2 ?_)));have sz:=wz.size;have Vz:=bH;have Ud:=bP;have aiG:=gJ;have aiH:∀j,Bl j->j<w6.heap.size:=λj hj=>by have:=nj j hj; omega
 refine az aiF (SK (hC.aa wz) aiH (λes h=>Nat.le_trans (hl es h) (by omega)) (af.refl _ _) (LL.nil _ _) (show 0+n<=_ by omega)) λe w7 ⟨q1,d1,hs1,he,hL1,k7⟩=>?_;rw [Nat.zero_add,List.nil_append] at hL1;have bH:=bH.aa k7;have bP:=bP.aa k7;refine ⟨_,_,_,he,au (c0 bP).2 rfl,ah (c0 bP).1 rfl,ah (c0 bH).1 rfl,?_⟩;rw [Nat.zero_add];refine az aiF (SK ((hD.aa wz).aa k7) aiH (λes h=>Nat.le_trans (zH es h) (by omega)) k7 hL1 (show n+m<=_ by omega)) λe w8 ⟨q2,d2,To,he,hL2,k8⟩=>?_;have bH:=(Vz:b_ w6 b2 _ _).aa k8;have bP:=(Ud:b_ w6 b3 _ _).aa k8;have gJ:=gJ.aa k8;refine ⟨_,_,_,he,ah (c0 bP).1 rfl,ah (c0 bH).1 rfl,?_⟩;simp only [ag,Nat.zero_add];refine aG gJ (by simp) rfl λw9 hB k9 _=>aG hB (by simp) rfl λcK hB fD _=>ah (hB.cell 0) (au (hB.cell 1) ?_);refine ⟨_,_,_,_,0,rfl,((wz.ak k8).bw k9 (by omega)).bw fD (by omega),Or.inr ⟨rfl,Ol.1 rfl,Ko.1 rfl,?_,rfl,To,?_⟩⟩
 ·rfl
 ·have hL:=(hL2.ax k9 λi hi h=>by have h1:w6.heap.size<=i:=hi; have h2:i=b4:=h; have:=aiG.lt; omega).ax fD λi hi h=>by have h1:w6.heap.size<=i:=hi; have h2:i=b4:=h; have:=aiG.lt; omega
  exact hL.mono λi _ hi=>by have h1:w6.heap.size<=i:=hi; show w.heap.size<=i; omega
end
end Sv
namespace Sv
open Go Vc T bp
open bt (cQ aL aA bg aO aB Sl sv LL)
def SL (w:World) (c:kN) (nv:Int) (av:List (List Int)) (b:Nat) (W:World):Prop:=
 ∃o q m d q' m' d',Ny c av nv.toNat o/\uh w W (.agg #[I o.fin,.slice q m d,.slice q' m' d',I o.cf]) o/\b_ W b [I o.fin,.slice q m d,.slice q' m' d',I o.cf] 33
abbrev Z4:List Value:=[.int .i64 0,.slice none 0 0,.slice none 0 0,.int .i64 0]
abbrev Fv (x:Int) (y:Option Addr) (n c:Nat):Value:=.agg #[.int .i64 x,.slice y n c]
abbrev Ck (w:World) (b:Nat) (v:Value):Prop:=aW .i64 w ((⟨b,0,none⟩:Addr).add 0) λx=>aZ w ((⟨b,0,none⟩:Addr).add 1) λy n c=>Fv x y n c=v
abbrev Us (w:World) (K:Int->Int->Int->Nat->Int->Int->World->Prop):Prop:=cl Tryz.prog 20 [] w λe w'=>∃x0:Int,∃x1:Int,∃x2:Int,∃x3:Nat,∃x4:Int,∃x5:Int,e=Ending.returned (.agg #[.int .i64 x0,.int .i64 x1,.int .i64 x2,.float .f64 x3,.int .i64 x4,.int .i64 x5])/\K x0 x1 x2 x3 x4 x5 w'
abbrev Wn (w:World) (v:Value) (a0 a1 a2:Int) (a3:Nat) (a4 a5:Int) (K:Int->Int->Int->Nat->Int->Int->World->Prop):Prop:=cl Tryz.prog 13 [v,.agg #[.int .i64 a0,.int .i64 a1,.int .i64 a2,.float .f64 a3,.int .i64 a4,.int .i64 a5]] w λe w'=>∃x0:Int,∃x1:Int,∃x2:Int,∃x3:Nat,∃x4:Int,∃x5:Int,e=Ending.returned (.agg #[.int .i64 x0,.int .i64 x1,.int .i64 x2,.float .f64 x3,.int .i64 x4,.int .i64 x5])/\K x0 x1 x2 x3 x4 x5 w'
abbrev So (w:World) (v:Value) (a0 a1 a2:Int) (a3:Nat) (a4 a5:Int) (K:Int->Option Addr->Nat->Nat->Option Addr->Nat->Nat->Int->Int->World->Prop):Prop:=cl Tryz.prog 14 [v,.agg #[.int .i64 a0,.int .i64 a1,.int .i64 a2,.float .f64 a3,.int .i64 a4,.int .i64 a5]] w λe w'=>∃x:Int,∃(y:Option Addr) (yn yc:Nat),∃(z:Option Addr) (zn zc:Nat),∃u:Int,∃r:Int,e=Ending.returned (.tuple #[.agg #[.int .i64 x,.slice y yn yc,.slice z zn zc,.int .i64 u],.int .i64 r])/\K x y yn yc z zn zc u r w'
abbrev S4 (w:World) (b:Nat) (x:Int) (y:Option Addr) (yn yc:Nat) (z:Option Addr) (zn zc:Nat) (u:Int) (K:World->Prop):Prop:=st w ((⟨b,0,none⟩:Addr).add 0) (.int .i64 x) λw3=>st w3 ((⟨b,0,none⟩:Addr).add 1) (.slice y yn yc) λw4=>st w4 ((⟨b,0,none⟩:Addr).add 2) (.slice z zn zc) λw5=>st w5 ((⟨b,0,none⟩:Addr).add 3) (.int .i64 u) K
section
variable {Bl:Nat->Prop} {w0 w:World} {nv:Int} {p:Option Addr} {n cp:Nat} {av:List (List Int)} {c:kN}
theorem anX (hC:pP Bl w p n av) (nj:∀j,Bl j->j<w.heap.size) (hn:n<=1048576) (hl:∀es∈av,es.length<=1048576) (hF:bD nv av) (hf:cS.formed c.bs c.f c.g c.d c.ph=true)
  (mZ:nv<=20\/(0<=c.dh/\c.dh<=500)) (sL : -9223372036854775808<=c.dh/\c.dh<=9223372036854775807) {b:Nat} {cs:List Value} (hl4:cs.length=4) (hB:b_ w b cs 33) {K:Int->World->Prop}
  (hK:∀W,SL w c nv av b W->af (One b) w W->K 0 W) :
  So w (Fv nv p n cp) c.bs c.f c.g c.d c.ph c.dh λx y yn yc z zn zc u r w1=>S4 w1 b x y yn yc z zn zc u λw6=>K r w6:=by
 refine az abV (Jj hC nj hn hl c (λ_ _=>?_) sL) λe w1 ⟨v,he,hR⟩=>?_
 ·obtain ⟨o,h,_⟩:=YK hF hf (by have:=hC.len; omega) hl mZ;exact ⟨_,o,h⟩
 rcases hR with ⟨dO,_⟩ | ⟨_,_,o,v',hE,rfl,hO,k1⟩
 ·exact absurd ⟨hF,hf⟩ dO
 have pT:=hO;obtain ⟨q,m,d,q',m',d',gs,rfl,g1,g2,g3,g4⟩:=hO;have lb:=hB.lt;refine ⟨_,q,m,d,q',m',d',_,0,he,sN hl4 (hB.aa k1) λw3 bP k3=>hK w3 ⟨o,q,m,d,q',m',d',hE,pT.ax k3 λi h1 h2 h3=>?_,bP⟩ (k1.none.trans k3 λ_ _ h=>h)⟩;have h4:i=b:=h3;omega
theorem anY (hC:pP Bl w p n av) (nj:∀j,Bl j->j<w.heap.size) (hn:n<=1048576) (hl:∀es∈av,es.length<=1048576) (hF:bD nv av) (hf:cS.formed c.bs c.f c.g c.d c.ph=true)
  (mZ:nv<=20\/(0<=c.dh/\c.dh<=500)) (sL : -9223372036854775808<=c.dh/\c.dh<=9223372036854775807) {C1 C2:World->Prop} (hCk:∀W,af aq w W->C1 W/\C2 W) {K:Int->Nat->World->Prop}
  (hK:∀b W,w.heap.size<=b->SL w c nv av b W->af aq w W->K 0 b W) :
  So w (Fv nv p n cp) c.bs c.f c.g c.d c.ph c.dh λx y yn yc z zn zc u r w1=>cg w1 Z4 33 λb w2=>C1 w2/\C2 w2/\S4 w2 b x y yn yc z zn zc u λw6=>K r b w6:=by
 refine az abV (Jj hC nj hn hl c (λ_ _=>?_) sL) λe w1 ⟨v,he,hR⟩=>?_
 ·obtain ⟨o,h,_⟩:=YK hF hf (by have:=hC.len; omega) hl mZ;exact ⟨_,o,h⟩
 rcases hR with ⟨dO,_⟩ | ⟨_,_,o,v',hE,rfl,hO,k1⟩
 ·exact absurd ⟨hF,hf⟩ dO
 have pT:=hO;obtain ⟨q,m,d,q',m',d',gs,rfl,g1,g2,g3,g4⟩:=hO;have s1:=k1.size;refine ⟨_,q,m,d,q',m',d',_,0,he,aD λb w2 hb hB k2=>?_⟩;obtain ⟨c1,c2⟩:=hCk w2 (k1.ak k2);have Cm:=pT.ax k2 λ_ _ _ h=>h;refine ⟨c1,c2,sN rfl hB λw3 bP k3=>hK b w3 (by omega) ⟨o,q,m,d,q',m',d',hE,?_,bP⟩ ((k1.ak k2).bw k3 (by omega))⟩;refine (pT.ax (k2.bw k3 (by omega)) λ_ _ _ h=>h)
theorem reg (hC:pP Bl w p n av) (nj:∀j,Bl j->j<w.heap.size) (hn:n<=1048576) (hl:∀es∈av,es.length<=1048576) (hF:bD nv av) {hv:Int} (aM:nv<=hv) {q:Option Addr} {m d:Nat}
  {bf bh:Nat} (bH:b_ w bf [I nv,.slice p n cp] 24) (me:b_ w bh [I hv,.slice q m d] 24) {R:Int->Nat->World->Prop}
  (hR:∀b W w1,w.heap.size<=b->w.heap.size<=w1.heap.size->SL w1 (BT (fK hv (-1))) nv av b W->af aq w W->R 0 b W) :
  aW .i64 w ((⟨bf,0,none⟩:Addr).add 0) λf0=>aZ w ((⟨bf,0,none⟩:Addr).add 1) λf1 f2 f3=>aW .i64 w ((⟨bh,0,none⟩:Addr).add 0) λh0=>aZ w ((⟨bh,0,none⟩:Addr).add 1) λh1 h2 h3=>
   (Us w λa0 a1 a2 a3 a4 a5 w9=>Ck w9 bh (Fv h0 h1 h2 h3)/\Ck w9 bf (Fv f0 f1 f2 f3)/\
    (Wn w9 (Fv h0 h1 h2 h3) a0 a1 a2 a3 a4 a5 λc0 c1 c2 c3 c4 c5 cK=>Ck cK bf (Fv f0 f1 f2 f3)/\
     (So cK (Fv f0 f1 f2 f3) c0 c1 c2 c3 c4 c5 λx y yn yc z zn zc u r dB=>cg dB Z4 33 λb dF=>Ck dF bh (Fv h0 h1 h2 h3)/\Ck dF bf (Fv f0 f1 f2 f3)/\S4 dF b x y yn yc z zn zc u λeM=>R r b eM)/\
     (cg cK Z4 33 λb fe=>Ck fe bh (Fv h0 h1 h2 h3)/\Ck fe bf (Fv f0 f1 f2 f3)/\So fe (Fv f0 f1 f2 f3) c0 c1 c2 c3 c4 c5 λx y yn yc z zn zc u r gB=>S4 gB b x y yn yc z zn zc u λxh=>R r b xh))/\
    (cg w9 Z4 33 λb mV=>Ck mV bh (Fv h0 h1 h2 h3)/\Ck mV bf (Fv f0 f1 f2 f3)/\Wn mV (Fv h0 h1 h2 h3) a0 a1 a2 a3 a4 a5 λc0 c1 c2 c3 c4 c5 nG=>Ck nG bf (Fv f0 f1 f2 f3)/\
     So nG (Fv f0 f1 f2 f3) c0 c1 c2 c3 c4 c5 λx y yn yc z zn zc u r jq=>S4 jq b x y yn yc z zn zc u λEp=>R r b Ep))/\
   (cg w Z4 33 λb xg=>Ck xg bh (Fv h0 h1 h2 h3)/\Ck xg bf (Fv f0 f1 f2 f3)/\Us xg λa0 a1 a2 a3 a4 a5 yp=>Ck yp bh (Fv h0 h1 h2 h3)/\Ck yp bf (Fv f0 f1 f2 f3)/\
    Wn yp (Fv h0 h1 h2 h3) a0 a1 a2 a3 a4 a5 λc0 c1 c2 c3 c4 c5 Er=>Ck Er bf (Fv f0 f1 f2 f3)/\
     So Er (Fv f0 f1 f2 f3) c0 c1 c2 c3 c4 c5 λx y yn yc z zn zc u r JQ=>S4 JQ b x y yn yc z zn zc u λXm=>R r b Xm):=by
 have l2:=bH.lt; have l17:=me.lt;have WH:∀W,af aq w W->Ck W bf (Fv nv p n cp):=λW k=>K0 (bH.aa k) rfl;have ckh:∀W,af aq w W->Ck W bh (Fv hv q m d):=λW k=>K0 (me.aa k) rfl;have hf:=rY (fK hv (-1));have hb:(nv<=20\/(0<=(BT (fK hv (-1))).dh/\(BT (fK hv (-1))).dh<=500))/\ -9223372036854775808<=(BT (fK hv (-1))).dh/\(BT (fK hv (-1))).dh<=9223372036854775807:=by
  show (nv<=20\/(0<=fK hv (-1)/\fK hv (-1)<=500))/\ -9223372036854775808<=fK hv (-1)/\fK hv (-1)<=9223372036854775807;unfold fK;by_cases h:hv>20
  ·rw [if_pos ⟨h,Or.inl (by decide)⟩]; omega
  ·rw [if_neg λq=>h q.1]; omega
 have us:∀{W:World} {K:Int->Int->Int->Nat->Int->Int->World->Prop},(∀W',af aq W W'->K 100 2000 300 4606732058837280358 3 (-1) W')->Us W K:=λhK=>az ach (Dd _) λe w2 ⟨he,k2⟩=>⟨_,_,_,_,_,_,he,hK w2 k2⟩
 have wn:∀{W:World} {K:Int->Int->Int->Nat->Int->Int->World->Prop},(∀W',af aq W W'->K 100 2000 300 4606732058837280358 3 (fK hv (-1)) W')->Wn W (Fv hv q m d) 100 2000 300 4606732058837280358 3 (-1) K:=λhK=>az ahr (FX hv q m d (BT (-1)) _) λe w2 ⟨he,k2⟩=>⟨_,_,_,_,_,_,he,hK w2 k2⟩
 have go:∀{W:World} {b:Nat},af aq w W->w.heap.size<=b->b_ W b Z4 33->So W (Fv nv p n cp) 100 2000 300 4606732058837280358 3 (fK hv (-1)) λx y yn yc z zn zc u r w1=>S4 w1 b x y yn yc z zn zc u λw6=>R r b w6:=λ{W b} k um hB=>
  anX (c:=BT (fK hv (-1))) (hC.aa k) (λj hj=>Nat.lt_of_lt_of_le (nj j hj) k.size) hn hl hF hf hb.1 hb.2 rfl hB λW' hS k'=>hR b W' W um k.size hS (k.bw k' um)
 refine K0 bH (K0 me ⟨us λw9 k9=>⟨ckh _ k9,WH _ k9,wn λcK fD=>⟨WH _ (k9.ak fD),?_,?_⟩,?_⟩,?_⟩)
 ·have k:=k9.ak fD;exact anY (c:=BT (fK hv (-1))) (hC.aa k) (λj hj=>Nat.lt_of_lt_of_le (nj j hj) k.size) hn hl hF hf hb.1 hb.2 (λW k'=>⟨ckh _ (k.ak k'),WH _ (k.ak k')⟩) λb W um hS k'=>hR b W cK (Nat.le_trans k.size um) k.size hS (k.ak k')
 ·refine aD λb fe um hB kz=>?_;have k:=(k9.ak fD).ak kz;exact ⟨ckh _ k,WH _ k,go k (by rw [um]; exact (k9.ak fD).size) hB⟩
 ·refine aD λb mV um hB uI=>?_;have k:=k9.ak uI;exact ⟨ckh _ k,WH _ k,wn λnG oA=>⟨WH _ (k.ak oA),go (k.ak oA) (by rw [um]; exact k9.size) (hB.aa oA)⟩⟩
 ·refine aD λb xg um hB Kf=>⟨ckh _ Kf,WH _ Kf,us λyp Mn=>⟨ckh _ (Kf.ak Mn),WH _ (Kf.ak Mn),wn λEr L5=>⟨WH _ ((Kf.ak Mn).ak L5),go ((Kf.ak Mn).ak L5) (by omega) ((hB.aa Mn).aa L5)⟩⟩⟩
end
end Sv
namespace Sv
open Go Vc T bp
open bt (cQ aL aA bg aO aB Sl sv LL)
theorem K2 {w:World} {q:Option Addr} {k c j:Nat} {m:List Bool} (h:bR w 4 1 q k c (m.map Value.bool)) (hj:j<=k):Gm w (jZ q c 0 1) j (m.take j):=by
 have hl:m.length=k:=by have:=h.len; simpa using this
 refine ⟨by simp; omega,λi x hx=>?_⟩;rw [List.getElem?_take] at hx;split at hx
 ·obtain ⟨a,h1,h2,h3⟩:=(C0 h).cell i x hx;rcases h with ⟨rfl,_⟩ | ⟨b,cs,rfl,_⟩
  ·cases h1
  ·refine ⟨⟨b,0,none⟩,?_,?_,?_⟩
   ·unfold jZ;split
    ·rfl
    ·rw [Option.map_some,ag]
   ·cases h1; exact h2
   ·cases h1; exact h3
 ·cases hx
theorem K3 {m:List Bool} {nv:Nat} {d:List Int} (hd:∀x∈d,Wi nv x) (h:xH m d):xH (m.take nv) d:=by
 obtain ⟨x,hx,ht⟩:=h;refine ⟨x,hx,?_⟩;obtain ⟨h0,h1,h2⟩:=hd x hx;unfold bp.lt at ht ⊢;rw [List.getElem?_take,if_pos (by omega)]; exact ht
theorem K5 {a b:Int} (h:a<=b) {x:Int} (hx:Wi a.toNat x):Wi b.toNat x:=⟨hx.1,by have:=hx.2; omega,by have:=hx.2; omega⟩
section
variable {Bl:Nat->Prop} {w:World} {nv nw:Int} {p q:Option Addr} {n m cp dp:Nat} {av ds:List (List Int)}
theorem F0 (h1:bD nv av) (h2:bD nw ds):bD (uo nv nw) (av++ds)/\nv<=uo nv nw/\nw<=uo nv nw:=by
 have hm:nv<=uo nv nw/\nw<=uo nv nw/\0<=uo nv nw/\uo nv nw<=1048576:=by
  have:=h1.1; have:=h1.2.1; have:=h2.1; have:=h2.2.1;unfold uo; split<;>omega
 refine ⟨⟨hm.2.2.1,hm.2.2.2,λc hc x hx=>?_⟩,hm.1,hm.2.1⟩;rcases List.mem_append.1 hc with hc | hc
 ·exact K5 hm.1 (h1.2.2 c hc x hx)
 ·exact K5 hm.2.1 (h2.2.2 c hc x hx)
theorem acB {M:List Bool} {k:Nat} (hw:∀c∈av,∀x∈c,Wi k x) (h:∀c∈av,xH M c):Yn (λx=>x≠0/\M[x.natAbs - 1]?.getD false=decide (0<x)) av:=by
 refine ⟨λx ⟨h0,h1⟩ ⟨_,h2⟩=>?_,λx hx=>?_,λc hc=>?_⟩
 ·rw [Int.natAbs_neg,h1,Bool.eq_iff_iff,decide_eq_true_eq,decide_eq_true_eq] at h2; omega
 ·rcases Int.lt_or_gt_of_ne hx with aM | BM
  ·cases hb:M[x.natAbs - 1]?.getD false with
   | false=>exact Or.inl ⟨hx,by rw [decide_eq_false (by omega)]⟩
   | true=>exact Or.inr ⟨by omega,by rw [Int.natAbs_neg,hb,decide_eq_true (by omega)]⟩
  ·cases hb:M[x.natAbs - 1]?.getD false with
   | true=>exact Or.inl ⟨hx,by rw [decide_eq_true (by omega)]⟩
   | false=>exact Or.inr ⟨by omega,by rw [Int.natAbs_neg,hb,decide_eq_false (by omega)]⟩
 ·obtain ⟨x,hx,ht⟩:=h c hc;refine ⟨x,hx,(hw c hc x hx).1,?_⟩;unfold bp.lt at ht;rw [ht]; rfl
theorem anZ (hC:pP Bl w p n av) (hD:pP Bl w q m ds) (nj:∀j,Bl j->j<w.heap.size) (hl:∀es∈av,es.length<=1048576) (zH:∀es∈ds,es.length<=1048576) (hn:n+m<=1048576) :
  Calls Tryz.prog 6 #[.agg #[I nv,.slice p n cp],.agg #[I nw,.slice q m dp]] w λe w'=>e=.returned (.bool true)/\RowKit.Below w.heap.size w w':=by
 refine (SJ nv p n cp nw q m dp w (dw.qG w (.bool true)) ?_).mono λe w' ⟨v,he,hv,hk⟩=>⟨by rw [he,hv],hk.GV⟩
 unfold V6;have g_:=hC.len;have Bg:=hD.len;refine aD λb2 w1 rN bH k1=>aD λb3 w2 R7 bP k2=>?_;have l2:=bH.lt; have l3:=bP.lt;have bH:=bH.aa k2;have s1:=k1.size; have s2:=k2.size;refine az acg (De w2) λe w3 ⟨he,k3⟩=>⟨_,he,aT rfl ?_⟩
 have bH:=bH.aa k3;have bP:=bP.aa k3;have oF:=(k1.ak k2).ak k3;have s3:=k3.size;refine K0 bH (K0 bP ?_);refine az amY (acA (hC.aa oF) (hD.aa oF) (λj hj=>Nat.lt_of_lt_of_le (nj j hj) oF.size) hl zH hn) λe w4 ⟨x,p',n',d',r,he,k4,hr⟩=>⟨x,p',n',d',r,he,?_⟩
 refine aD λgK w5 apd me k5=>?_;have s4:=k4.size; have s5:=k5.size;simp only [ag,Nat.zero_add];refine aG me (by simp) rfl λw6 me k6 _=>aG me (by simp) rfl λw7 me k7 _=>?_;have Mq:af aq w3 w7:=((k4.ak k5).bw k6 (by omega)).bw k7 (by omega);have By:=oF.ak Mq;rcases hr with hr | ⟨rfl,hF1,hF2,rfl,rfl,hs,hL⟩
 ·exact aX (by rw [bne_iff_ne]; exact hr) ⟨rfl,By⟩
 refine aT rfl ?_;obtain ⟨hF,aiI,ape⟩:=F0 hF1 hF2;have kd:af aq w7 w7.drew:=(af.refl aq w7).drew;have bH:=(bH.aa Mq).aa kd;have bP:=(bP.aa Mq).aa kd;have me:=me.aa kd;have hL:LL (λi=>w3.heap.size<=i/\i<w4.heap.size) w7.drew p' (n+m) d' hs (av++ds):=
  ((((hL.mono λi h1 h2=>⟨h2,h1⟩).aa k5).ax k6 λi h1 h2=>by have h3:i=gK:=h2; omega).ax k7 λi h1 h2=>by have h3:i=gK:=h2; omega).aa kd
 have k0d:=By.ak kd;have s7:w3.heap.size<=w7.drew.heap.size:=(Mq.ak kd).size;have s47:w4.heap.size<=w7.drew.heap.size:=by have:=k6.size; have:=k7.size; have:=kd.size; omega
 generalize w7.drew=wd at *
 have sd:=k0d.size;have hC':=hC.aa k0d;have hH:=YF hL;have hlH:∀es∈av++ds,es.length<=1048576:=λes h=>(List.mem_append.1 h).elim (hl es) (zH es);refine ⟨λs W=>s.1=0/\∃b w1,s.2.1=⟨b,0,none⟩/\wd.heap.size<=b/\wd.heap.size<=w1.heap.size/\SL w1 (BT (fK (uo nv nw) (-1))) nv av b W/\af aq wd W,?_,?_⟩
 ·exact reg hC' (λj hj=>Nat.lt_of_lt_of_le (nj j hj) sd) (by omega) hl hF1 aiI bH me λb W w1 h1 h2 h3 h4=>⟨rfl,b,w1,rfl,h1,h2,h3,h4⟩
 rintro ⟨v20,v21,⟨⟩⟩ W ⟨rfl,b,w1,rfl,hb,uN,hS,kW⟩;dsimp only;have A3:af aq W W.drew:=(af.refl aq W).drew;obtain ⟨o1,qa,ma,da,qb,mb,db,hE1,_,NX⟩:=hS;have NX:=NX.aa A3;have bH:=(bH.aa kW).aa A3;have bP:=(bP.aa kW).aa A3;have me:=(me.aa kW).aa A3;have kW:=kW.ak A3;have hH:=hH.aa kW;generalize W.drew=W2 at *
 have sW:=kW.size;have k0W:=k0d.ak kW;refine ⟨λs W=>s.2.1=0/\∃b' w1,s.1=⟨b',0,none⟩/\W2.heap.size<=b'/\W2.heap.size<=w1.heap.size/\SL w1 (BT (fK (uo nv nw) (-1))) (uo nv nw) (av++ds) b' W/\af aq W2 W,?_,?_⟩
 ·exact reg hH (λj hj=>by have:=hj.2; omega) (by omega) hlH hF (Int.le_refl _) me me λb W w1 h1 h2 h3 h4=>⟨rfl,b,w1,rfl,h1,h2,h3,h4⟩
 rintro ⟨FZ,Jo,⟨⟩⟩ W ⟨rfl,b',Yi,rfl,lP,apf,hS2,U3⟩;dsimp only;obtain ⟨o2,qc,mc,dc,qd,md,dd,Kl,Cm,xY⟩:=hS2;have NX:=NX.aa U3;have bH:=bH.aa U3;have bP:=bP.aa U3;have me:=me.aa U3;have k0E:=k0W.ak U3;simp only [ag,Nat.zero_add];have hH':=hH.len;have hf:=rY (fK (uo nv nw) (-1));have Ld:fK (uo nv nw) (-1)=if uo nv nw>20 then 500 else -1:=by
  unfold fK;by_cases h:uo nv nw>20
  ·rw [if_pos ⟨h,Or.inl (by decide)⟩,if_pos h]
  ·rw [if_neg λq=>h q.1,if_neg h]
 have mZ:∀v:Int,v<=uo nv nw->v<=20\/(0<=(BT (fK (uo nv nw) (-1))).dh/\(BT (fK (uo nv nw) (-1))).dh<=500):=λv hv=>by
  show v<=20\/(0<=fK (uo nv nw) (-1)/\fK (uo nv nw) (-1)<=500);rw [Ld]; split<;>omega
 have yM:0<=(BT (fK (uo nv nw) (-1))).dh->uo nv nw>20:=λh=>by
  have h:0<=fK (uo nv nw) (-1):=h;rw [Ld] at h; split at h<;>omega
 have f1:=rZ (se hF1 hf (by omega) hl (mZ nv aiI) hE1);have f2:=rZ (se hF hf (by omega) hlH (mZ _ (Int.le_refl _)) Kl);have aiJ:dw.qG w (.bool true) (.bool (decide (uo nv nw>20))) W\/(o1.fin≠3/\o2.fin≠3):=by
  by_cases h:uo nv nw>20
  ·exact Or.inl ⟨by rw [decide_eq_true h],k0E⟩
  ·refine Or.inr ⟨λq=>?_,λq=>?_⟩
   ·rcases f1 with ⟨e,_⟩ | ⟨e,_⟩ | ⟨_,e,_⟩
    ·omega
    ·omega
    ·exact h (yM e)
   ·rcases f2 with ⟨e,_⟩ | ⟨e,_⟩ | ⟨_,e,_⟩
    ·omega
    ·omega
    ·exact h (yM e)
 have hun:o1.fin=2->o2.fin≠3->o2.fin=2:=λh h'=>by
  rcases f1 with ⟨e,_⟩ | ⟨_,hT,_⟩ | ⟨e,_⟩
  ·omega
  ·rcases f2 with ⟨_,_,e,_⟩ | ⟨e,_⟩ | ⟨e,_⟩
   ·exact absurd (acB hF1.2.2 λc hc=>e c (List.mem_append_left _ hc)) (hT _)
   ·exact e
   ·exact absurd e h'
  ·omega
 refine aS rfl (ah (NX.cell 0) ?_);by_cases Q1:o1.fin=3
 ·refine a_ (by simp [Q1]) (aX (by simp [Q1]) (ah (me.cell 0) (aiJ.resolve_right λq=>q.1 Q1)))
 refine aS (by simp [Q1]) (ah (xY.cell 0) ?_);by_cases Oh:o2.fin=3
 ·exact aX (by simp [Oh]) (ah (me.cell 0) (aiJ.resolve_right λq=>q.2 Oh))
 refine aT (by simp [Q1,Oh]) (aS rfl (ah (NX.cell 0) ?_));by_cases h12:o1.fin=2
 ·have Ns:=hun h12 Oh;exact aS (by simp [h12]) (ah (xY.cell 0) (aT (by simp [Ns]) (ah (xY.cell 0) (aX (by simp [Ns]) ⟨rfl,k0E⟩))))
 refine a_ (by simp [h12]) (aT (by simp [h12]) (ah (xY.cell 0) ?_));by_cases Ns:o2.fin=2
 ·exact aX (by simp [Ns]) ⟨rfl,k0E⟩
 obtain ⟨NY,RB,aiK,_⟩:o2.fin=1/\o2.model.length=(uo nv nw).toNat/\(∀d∈av++ds,xH o2.model d)/\True:=by
  rcases f2 with ⟨a,b,c,_⟩ | ⟨e,_⟩ | ⟨e,_⟩
  ·exact ⟨a,b,c,trivial⟩
  ·exact absurd e Ns
  ·exact absurd e Oh
 refine aT (by simp [Ns]) ?_;have Ks:af aq W W.drew:=(af.refl aq W).drew;have xY:=xY.aa Ks;have bH:=bH.aa Ks;have bP:=bP.aa Ks;have me:=me.aa Ks;have k0F:=k0E.ak Ks;obtain ⟨_,_,_,_,_,_,_,heq,g1,_⟩:=Cm;injection heq with heq;simp only [Array.mk.injEq,List.cons.injEq,Value.slice.injEq] at heq;obtain ⟨_,⟨rfl,rfl,rfl⟩,_⟩:=heq;have an0:=g1.len;rw [List.length_map,Nat.mul_one] at an0;have CN:=g1.le.1;have g1:=g1.aa Ks;generalize W.drew=W3 at *
 have hH0:=hF.1;have GC:=hF1.1;have hw0:=hF2.1;have e5:((mc:Int)==uo nv nw)=true:=by rw [beq_iff_eq]; omega
 refine ah (xY.cell 0) (aS (by simp [NY]) (au (xY.cell 1) (aS (by simp [NY]) (ah (me.cell 0) ?_))));refine aS (by simp [NY,e5]) (ah (bH.cell 0) (au (bH.cell 1) (aS (by simp [NY,e5]) (au (xY.cell 1) (aS (by simp [NY,e5]) (ah (bH.cell 0) (aS (by simp [NY,e5]) ⟨GC,by show nv<=(dc:Int); omega,?_⟩)))))));refine aS (by simp [NY,e5]) (az agi (agk (hC.aa k0F) (show n<=_ by omega) (λes h=>Nat.le_trans (hl es h) (by omega)) (K2 g1 (show nv.toNat<=mc by omega))) λe w72 ⟨r,he,hr,k72⟩=>⟨r,he,?_⟩);obtain rfl:r=true:=hr.2 ⟨hF1,Int.toNat_of_nonneg GC,λes h=>K3 (hF1.2.2 es h) (aiK es (List.mem_append_left _ h))⟩;have bP:=bP.aa k72;have xY:=xY.aa k72;refine aS (by simp [NY,e5]) (ah (bP.cell 0) (au (bP.cell 1) (aS (by simp [NY,e5]) (au (xY.cell 1) (aS (by simp [NY,e5]) (ah (bP.cell 0) (aS (by simp [NY,e5]) ⟨hw0,by show nw<=(dc:Int); omega,?_⟩)))))));refine aS (by simp [NY,e5]) (az agi (agk ((hD.aa k0F).aa k72) (show m<=_ by omega) (λes h=>Nat.le_trans (zH es h) (by omega)) (K2 (g1.aa k72) (show nw.toNat<=mc by omega))) λe Cw ⟨r,he,hr,ZM⟩=>⟨r,he,?_⟩);obtain rfl:r=true:=hr.2 ⟨hF2,Int.toNat_of_nonneg hw0,λes h=>K3 (hF2.2.2 es h) (aiK es (List.mem_append_right _ h))⟩;refine ⟨?_,(k0F.ak k72).ak ZM⟩;simp [NY,e5]
end
end Sv
namespace Sv
open Go Vc T Go.ChangeShapes Go.WideShapes Go.ChangeAt Go.RowKit
open bp
theorem vD (os:Os) (started:os.Started) (H:Type) (enc:TypeId×Value->H) (F:Stop.Interp) :
  ReturnsInHanded {} Tryz.checked os 6 .any ((Rows.OpenSpec.upto Rows.solveTightSpec).pre6 enc Tryz.prog Tryz.f6 Rows.solveTightUptoRow.domain false) (((Rows.OpenSpec.upto Rows.solveTightSpec).at F).post enc Tryz.prog Tryz.f6 false true false false):=by
 refine yT (C:=Tryz.checked) (tb:=4) (by kernel_rfl) started (by kernel_rfl) Tryz.func6
  (OpenSpec.witness (enc:=enc) (C:=Tryz.checked) (s:=Rows.OpenSpec.upto Rows.solveTightSpec) (k:=Rows.uptoSmall) rfl false ⟨#[],#[.agg #[.int .i64 0,.slice none 0 0],.agg #[.int .i64 0,.slice none 0 0]],[]⟩ 12 (by kernel_rfl) (by kernel_rfl) (by kernel_rfl)
   (x:=([.agg [.lit (.int .i64 0),.nil],.agg [.lit (.int .i64 0),.nil]],[],[])) (by kernel_rfl) (by kernel_rfl) (by first | kernel_rfl | simp [Rows.uptoSmall,Rows.uptoBulkAll,Rows.uptoBulk]))
  (by kernel_rfl) (by kernel_rfl) rfl (by kernel_rfl) Tryz.underlying4 ?_ ?_
 ·intro ds hd;match ds,hd with
  | [d0,d1],_=>exact ⟨rfl,rfl,rfl⟩
 ·intro W base args ds ps tS hA hB;have Oo:DataW.TrodAll enc Tryz.prog W 0 (λ_=>true) true Tryz.f6.params.toList args.toList ds ps:=hA;rw [Tryz.params6] at Oo tS;obtain ⟨v0,vs0,d0,ds0,p0,q0,YL,rfl,rfl,h0,r0⟩:=trodAll_cons Oo;obtain ⟨v1,vs1,d1,ds1,p1,q1,rfl,rfl,rfl,h1,r1⟩:=trodAll_cons r0;obtain ⟨rfl,rfl,rfl⟩:=trodAll_nil r1;obtain rfl:args=#[v0,v1]:=by cases args; simp_all
  have XN:=tS 0 24 v0 rfl rfl;have wC:Rows.uptoBulk d0<=1048576:=Nat.le_trans (gy (by simp)) hB;have hv1:=tS 1 24 v1 rfl rfl;have um:Rows.uptoBulk d1<=1048576:=Nat.le_trans (gy (by simp)) hB;obtain ⟨nv,p,n,cp,av,rfl,dS,hC,GC⟩:=zA XN h0 wC;obtain ⟨nw,q,m,dp,ds,rfl,hnw,hD,hn1⟩:=zA hv1 h1 um;have hs:n+m<=1048576:=by simp only [Rows.uptoBulkAll] at hB; omega
  exact anZ hC.rd hD.rd (λ_ h=>h) (λes h=>(hC.lb es h).1) (λes h=>(hD.lb es h).1) hs
theorem xZ:Rows.solveTightUptoRow.holds Tryz.pinned (Rows.OpenSpec.upto Rows.solveTightSpec):=
 OpenClaim.holds_of_cond 6 Tryz.f6 rfl rfl rfl rfl rfl rfl rfl ⟨rfl,rfl,rfl,rfl,rfl⟩ rfl rfl rfl rfl rfl (by kernel_rfl) Tryz.func6 (by kernel_rfl)
  (of_decide_eq_true (by kernel_rfl)) (by unfold Func.isWrapper; first | (rw [if_pos (by decide +kernel)]; kernel_rfl) | (rw [if_neg (by decide +kernel)]; exact ⟨rfl,rfl⟩))
  (λos started H enc _ F=>vD os started H enc F)
end Sv
theorem solveTight_holds:Rows.SolveTightUptoSaid:=Sv.xZ
theorem three_hold:Rows.SolveFewUptoSaid/\Rows.SolveBudgetsUptoSaid/\Rows.SolveTightUptoSaid:=⟨solveFew_holds,solveBudgets_holds,solveTight_holds⟩
end Go.Proofs.YtagkgfmddflodaaGreat

