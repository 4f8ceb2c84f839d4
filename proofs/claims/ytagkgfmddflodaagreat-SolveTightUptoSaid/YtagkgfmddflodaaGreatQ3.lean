/- One part of the texts on which the proof of a law rests: read the last one first. -/
import Derived.Test.YtagkgfmddflodaaGreatQ2
import Derived.Test.YtagkgfmddflodaaGreatProg
set_option linter.unusedVariables false
set_option linter.unusedSimpArgs false
set_option linter.unusedSectionVars false
set_option maxRecDepth 100000
namespace Go.Proofs.YtagkgfmddflodaaGreat
namespace T
open Go Vc
def aeZ (a0:qA) (bQ:Nat) (cF:Nat) (w:World) (R:qR):Prop:=
 ∃x3:Option Nat,∃w1:World,(Instr.makeMap 222 none).run Tryz.prog w=.ok (.map x3) w1/\
 lp (σ:=Int×Int×Unit) (λs9 w2 k8=>match s9 with
  | (v6,v7,_)=>
  bC (decide (v7<(bQ:Int))) (
   cr a0 bQ v7 3 λsU=>
   aW .i64 w2 (sU.add 0) λeV=>
   aW .i64 w2 (sU.add 1) λdV=>
   aZ w2 (sU.add 2) λeP nK uH=>
   cg w2 [qI 0,qI 0,.slice none 0 0] 175 λGi w3=>
   st w3 ((⟨Gi,0,none⟩:Addr).add 0) (qI eV) λw4=>
   st w4 ((⟨Gi,0,none⟩:Addr).add 1) (qI dV) λw5=>
   st w5 ((⟨Gi,0,none⟩:Addr).add 2) (.slice eP nK uH) λw6=>
   gd (α:=Int) (v7==0) (λt_=>
    aW .i64 w6 ((⟨Gi,0,none⟩:Addr).add 1) λic=>
    t_ ic w6) 0 w6 λeX w7=>
   gd (α:=Int) ((!(cond (v7==0) (eX==1) false))&&(decide (v7>0))) (λF6=>
    aW .i64 w7 ((⟨Gi,0,none⟩:Addr).add 1) λiU=>
    F6 iU w7) 0 w7 λlR w8=>
   gd (α:=Int) (!(cond (cond (v7==0) (eX==1) false) true (cond (decide (v7>0)) (lR==(IntKind.wrap .i64 (v6+1))) false))) (λpK=>
    aW .i64 w8 ((⟨Gi,0,none⟩:Addr).add 1) λjj=>
    pK jj w8) 0 w8 λiI w9=>
   gd (α:=Int) (!(cond (!(cond (cond (v7==0) (eX==1) false) true (cond (decide (v7>0)) (lR==(IntKind.wrap .i64 (v6+1))) false))) (iI != v6) false)) (λk28=>
    aW .i64 w9 ((⟨Gi,0,none⟩:Addr).add 0) λjo=>
    k28 jo w9) 0 w9 λm_ cK=>
   gd (α:=Int) (!(cond (!(cond (cond (v7==0) (eX==1) false) true (cond (decide (v7>0)) (lR==(IntKind.wrap .i64 (v6+1))) false))) (iI != v6) false)) (λMn=>
    ∃ig:Int,∃dB:World,(Instr.lookup 222 (.map x3) (qI m_) false).run Tryz.prog cK=.ok (qI ig) dB/\
    Mn ig dB) 0 cK λrJ dF=>
   gd (α:=Int) (!(cond (cond (!(cond (cond (v7==0) (eX==1) false) true (cond (decide (v7>0)) (lR==(IntKind.wrap .i64 (v6+1))) false))) (iI != v6) false) true (decide (rJ>0)))) (λk34=>
    aW .i64 dF ((⟨Gi,0,none⟩:Addr).add 0) λlZ=>
    k34 lZ dF) 0 dF λtW eA=>
   gd (α:=Int) (!(cond (cond (!(cond (cond (v7==0) (eX==1) false) true (cond (decide (v7>0)) (lR==(IntKind.wrap .i64 (v6+1))) false))) (iI != v6) false) true (decide (rJ>0)))) (λMq=>
    ∃pg:Int,∃eG:World,(Instr.lookup 222 (.map x3) (qI (IntKind.wrap .i64 (0 - tW))) false).run Tryz.prog eA=.ok (qI pg) eG/\
    Mq pg eG) 0 eA λyh gT=>
   gd (α:=Int) (!(cond (cond (cond (!(cond (cond (v7==0) (eX==1) false) true (cond (decide (v7>0)) (lR==(IntKind.wrap .i64 (v6+1))) false))) (iI != v6) false) true (decide (rJ>0))) true (decide (yh>0)))) (λk40=>
    aW .i64 gT ((⟨Gi,0,none⟩:Addr).add 0) λtY=>
    k40 tY gT) 0 gT λoC eM=>
   gd (α:=Bool) (!(cond (cond (cond (!(cond (cond (v7==0) (eX==1) false) true (cond (decide (v7>0)) (lR==(IntKind.wrap .i64 (v6+1))) false))) (iI != v6) false) true (decide (rJ>0))) true (decide (yh>0)))) (λk43=>
    qb 95 [qI oC] eM λj_ fe=>
    k43 j_ fe) false eM λtX gB=>
   bC (cond (cond (cond (cond (!(cond (cond (v7==0) (eX==1) false) true (cond (decide (v7>0)) (lR==(IntKind.wrap .i64 (v6+1))) false))) (iI != v6) false) true (decide (rJ>0))) true (decide (yh>0))) true (!tX)) (
    R (.bool false) gB) (
    aW .i64 gB ((⟨Gi,0,none⟩:Addr).add 1) λng=>
    gd (α:=(qA×Nat×Nat)) (decide (ng>0)) (λk51=>
     aZ gB ((⟨Gi,0,none⟩:Addr).add 2) λxN y9 AI=>
     k51 (xN,y9,AI) gB) (none,0,0) gB λAK fV=>
    gd (α:=(qA×Nat×Nat)) (!(cond (decide (ng>0)) (!((cond (cond (v7==0) (eX==1) false) true (cond (decide (v7>0)) (lR==(IntKind.wrap .i64 (v6+1))) false))==((AK.2.1:Int)==0))) false)) (λk54=>
     aZ fV ((⟨Gi,0,none⟩:Addr).add 2) λBq El L8=>
     k54 (Bq,El,L8) fV) (none,0,0) fV λBt nF=>
    gd (α:=(Int×Int×(qA×Nat×Nat)×Unit)) ((!(cond (decide (ng>0)) (!((cond (cond (v7==0) (eX==1) false) true (cond (decide (v7>0)) (lR==(IntKind.wrap .i64 (v6+1))) false))==((AK.2.1:Int)==0))) false))&&(decide ((Bt.2.1:Int)>0))) (λk57=>
     aW .i64 nF ((⟨Gi,0,none⟩:Addr).add 0) λBr=>
     aW .i64 nF ((⟨Gi,0,none⟩:Addr).add 1) λxl=>
     aZ nF ((⟨Gi,0,none⟩:Addr).add 2) λvH Cx Cy=>
     k57 (Br,xl,(vH,Cx,Cy),()) nF) (0,0,(none,0,0),()) nF λHD og=>
    gd (α:=Bool) ((!(cond (decide (ng>0)) (!((cond (cond (v7==0) (eX==1) false) true (cond (decide (v7>0)) (lR==(IntKind.wrap .i64 (v6+1))) false))==((AK.2.1:Int)==0))) false))&&(decide ((Bt.2.1:Int)>0))) (λk62=>
     qb 206 [.agg #[qI HD.1,qI HD.2.1,.slice HD.2.2.1.1 HD.2.2.1.2.1 HD.2.2.1.2.2],.map x3] og λOa xh=>
     k62 Oa xh) false og λBs mV=>
    bC (cond (cond (decide (ng>0)) (!((cond (cond (v7==0) (eX==1) false) true (cond (decide (v7>0)) (lR==(IntKind.wrap .i64 (v6+1))) false))==((AK.2.1:Int)==0))) false) true (cond (decide ((Bt.2.1:Int)>0)) (!Bs) false)) (
     R (.bool false) mV) (
     aW .i64 mV ((⟨Gi,0,none⟩:Addr).add 0) λpU=>
     ∃xS:Int,∃nG:World,(Instr.lookup 222 (.map x3) (qI pU) false).run Tryz.prog mV=.ok (qI xS) nG/\
     ∃jq:World,(Instr.mapUpdate 222 (.map x3) (qI pU) (qI (IntKind.wrap .i64 (xS+1)))).run Tryz.prog nG=.ok () jq/\
     k8 (ng,(IntKind.wrap .i64 (v7+1)),()) jq))) (
   R (.bool true) w2)) (0,0,()) w1
theorem Ia (a0 bQ cF w R) (h:aeZ a0 bQ cF w R):qE 197 #[.slice a0 bQ cF] w R:=qv (.s .l (.s .l (.s .l (.s (.s .l (.b (.o [(4,.one (.int .i64)),(11,.one (.int .i64))] (.s .l (.s (.c .l .l) (.s (.b (.s .l (.s .l (.s (.s .l (.c (.s .l .l) .l)) (.s .l (.s (.s .l (.c (.s .l .l) .l)) .l)))))) .l)))))) (.s .l .l))))) Tryz.func197 (by kernel_rfl) (by kernel_rfl) h
theorem ae0:br qQ 197:=by kernel_rfl
def ae1 (bM:Int) (bN:Int) (gG:qA) (i_:Nat) (ja:Nat) (a1:Option Nat) (w:World) (R:qR):Prop:=
 cg w [qI bM,qI bN,.slice gG i_ ja] 175 λb2 w1=>
 aZ w1 ((⟨b2,0,none⟩:Addr).add 2) λx4 lQ sy=>
 aW .i64 w1 ((⟨b2,0,none⟩:Addr).add 0) λx5=>
 qb 210 [.slice x4 lQ sy,qI x5] w1 λx6 w2=>
 gd (α:=(qA×Nat×Nat)) (!(!x6)) (λk8=>
  aZ w2 ((⟨b2,0,none⟩:Addr).add 2) λx9 yg Bm=>
  k8 (x9,yg,Bm) w2) (none,0,0) w2 λdR w3=>
 gd (α:=Bool) (!(!x6)) (λgF=>
  qb 93 [.slice dR.1 dR.2.1 dR.2.2] w3 λdJ w4=>
  gF dJ w4) false w3 λdV w5=>
 bC (cond (!x6) true (!dV)) (
  R (.bool false) w5) (
  aZ w5 ((⟨b2,0,none⟩:Addr).add 2) λfL lY pJ=>
  lp (σ:=Int×Unit) (λs20 w6 ta=>match s20 with
   | (v18,_)=>
   bC (decide (v18<(lY:Int))) (
    cr fL lY v18 1 λLN=>
    aW .i64 w6 LN λiV=>
    aW .i64 w6 ((⟨b2,0,none⟩:Addr).add 0) λjj=>
    gd (α:=Int) (iV != jj) (λQJ=>
     ∃jN:Int,∃w7:World,(Instr.lookup 222 (.map a1) (qI (IntKind.wrap .i64 (0 - iV))) false).run Tryz.prog w6=.ok (qI jN) w7/\
     QJ jN w7) 0 w6 λjo w8=>
    bC (cond (iV != jj) (jo==0) false) (
     R (.bool false) w8) (
     ta ((IntKind.wrap .i64 (v18+1)),()) w8)) (
    R (.bool true) w6)) (0,()) w5)
theorem Ib (bM bN gG i_ ja a1 w R) (h:ae1 bM bN gG i_ ja a1 w R):qE 206 #[.agg #[qI bM,qI bN,.slice gG i_ ja],.map a1] w R:=qv (.s .l (.s (.s .l (.c (.s .l .l) .l)) (.s (.s .l (.b (.o [(22,.one (.int .i64))] (.s .l (.s (.c .l .l) (.s (.b (.s .l (.s .l (.c (.s .l .l) .l)))) .l)))))) (.s .l .l)))) Tryz.func206 (by kernel_rfl) (by kernel_rfl) h
theorem ae2:br qQ 206:=by kernel_rfl
def ae3 (a0:qA) (bQ:Nat) (cF:Nat) (w:World) (R:qR):Prop:=
 ∃x3:Option Nat,∃w1:World,(Instr.makeMap 222 none).run Tryz.prog w=.ok (.map x3) w1/\
 lp (σ:=Int×Unit) (λs7 w2 k6=>match s7 with
  | (v5,_)=>
  bC (decide (v5<(bQ:Int))) (
   cr a0 bQ v5 3 λxJ=>
   aW .i64 w2 (xJ.add 0) λfh=>
   aW .i64 w2 (xJ.add 1) λdJ=>
   aZ w2 (xJ.add 2) λeV sB uy=>
   cg w2 [qI 0,qI 0,.slice none 0 0] 175 λb14 w3=>
   st w3 ((⟨b14,0,none⟩:Addr).add 0) (qI fh) λw4=>
   st w4 ((⟨b14,0,none⟩:Addr).add 1) (qI dJ) λw5=>
   st w5 ((⟨b14,0,none⟩:Addr).add 2) (.slice eV sB uy) λw6=>
   aW .i64 w6 ((⟨b14,0,none⟩:Addr).add 0) λfk=>
   ∃w7:World,(Instr.mapUpdate 222 (.map x3) (qI (IntKind.wrap .i64 (0 - fk))) (qI (IntKind.wrap .i64 (v5+1)))).run Tryz.prog w6=.ok () w7/\
   k6 ((IntKind.wrap .i64 (v5+1)),()) w7) (
   R (.map x3) w2)) (0,()) w1
theorem Ic (a0 bQ cF w R) (h:ae3 a0 bQ cF w R):qE 174 #[.slice a0 bQ cF] w R:=qv (.s .l (.s .l (.s (.s .l (.b (.o [(9,.one (.int .i64))] (.s .l (.s (.c .l .l) (.s (.b (.s .l .l)) .l)))))) (.s .l .l)))) Tryz.func174 (by kernel_rfl) (by kernel_rfl) h
theorem XR:br qQ 174:=by kernel_rfl
def ae4 (a0:qA) (bQ:Nat) (cF:Nat) (a1:qA) (dW:Nat) (fU:Nat) (a2:Option Nat) (w:World) (R:qR):Prop:=
 qb 197 [.slice a0 bQ cF] w λx3 w1=>
 gd (α:=Bool) (!(!x3)) (λk5=>
  qb 93 [.slice a1 dW fU] w1 λx6 w2=>
  k5 x6 w2) false w1 λx8 w3=>
 bC (cond (!x3) true (!x8)) (
  R (qI 1) w3) (
  lp (σ:=Int×Unit) (λTV w4 fF=>match TV with
   | (v11,_)=>
   bC (decide (v11<(dW:Int))) (
    cr a1 dW v11 1 λCc=>
    aW .i64 w4 Cc λfL=>
    ∃ic:Int,∃w5:World,(Instr.lookup 222 (.map a2) (qI fL) false).run Tryz.prog w4=.ok (qI ic) w5/\
    bC (ic==0) (
     R (qI 2) w5) (
     fF ((IntKind.wrap .i64 (v11+1)),()) w5)) (
    R (qI 0) w4)) (0,()) w3)
theorem Ie (a0 bQ cF a1 dW fU a2 w R) (h:ae4 a0 bQ cF a1 dW fU a2 w R):qE 175 #[.slice a0 bQ cF,.slice a1 dW fU,.map a2] w R:=qv (.s .l (.s (.s .l (.c (.s .l .l) .l)) (.s (.s .l (.b (.o [(19,.one (.int .i64))] (.s .l (.s (.c .l .l) (.s (.b (.s .l (.s .l (.c (.s .l .l) .l)))) .l)))))) (.s .l .l)))) Tryz.func175 (by kernel_rfl) (by kernel_rfl) h
theorem XS:br qQ 175:=by kernel_rfl
def ae5 (a0:qA) (bQ:Nat) (cF:Nat) (a1:qA) (dW:Nat) (fU:Nat) (w:World) (R:qR):Prop:=
 cg w [.slice a0 bQ cF] 173 λb2 w1=>
 aZ w1 (⟨b2,0,none⟩:Addr) λx4 lQ sy=>
 cl Tryz.prog 174 [.slice x4 lQ sy] w1 λe6 w2=>∃x5:Option Nat,e6=Ending.returned (.map x5)/\
 cg w2 [.map none] 222 λb7 w3=>
 qS w3 b7 0 (.map x5) λw4=>
 aZ w4 (⟨b2,0,none⟩:Addr) λx9 yg Bm=>
 Ap w4 (⟨b7,0,none⟩:Addr) λdR=>
 qi 175 [.slice x9 yg Bm,.slice a1 dW fU,.map dR] w4 λfh w5=>
 bC (fh != 0) (
  R (.tuple #[.slice none 0 0,qI 0,qI fh]) w5) (
  ∃gh:Option Nat,∃w6:World,(Instr.makeMap 222 none).run Tryz.prog w5=.ok (.map gh) w6/\
  lp (σ:=Int×Int×Unit) (λs23 w7 Ey=>match s23 with
   | (v20,v21,_)=>
   bC (decide (v21<(dW:Int))) (
    cr a1 dW v21 1 λWZ=>
    aW .i64 w7 WZ λiI=>
    wS Tryz.prog (.func (.func 176) #[] #[qP b2,qP b7]) [qI iI] w7 λUL w8=>∃jo:Int,UL=Ending.returned (qI jo)/\
    ∃w9:World,(Instr.mapUpdate 222 (.map gh) (qI iI) (qI 1)).run Tryz.prog w8=.ok () w9/\
    Ey ((if jo>v20 then jo else v20),(IntKind.wrap .i64 (v21+1)),()) w9) (
    bC (v20==0) (
     R (.tuple #[.slice none 0 0,qI (-1),qI 0]) w7) (
     ∃(Tl:Addr) (cK:World),(Instr.range 222 (.map gh)).run Tryz.prog w7=.ok (.pointer (some Tl)) cK/\
     lp (σ:=Int×Unit) (λs40 dB Tb=>match s40 with
      | (Gj,_)=>
      ∃(q42:Bool) (l43:List Value) (dF:World),(Instr.next (.pointer (some Tl)) false 0).run Tryz.prog dB=.ok (.tuple (.bool q42 :: l43).toArray) dF/\
      bC q42 (
       ∃(yq tX:Int) (eA:World),(Instr.entry (.pointer (some Tl))).run Tryz.prog dF=.ok (.tuple #[qI yq,qI tX]) eA/\
       wS Tryz.prog (.func (.func 176) #[] #[qP b2,qP b7]) [qI yq] eA λe49 eG=>∃CC:Int,e49=Ending.returned (qI CC)/\
       bC (CC==v20) (
        Tb ((IntKind.wrap .i64 (Gj+1)),()) eG) (
        Tb (Gj,()) eG)) (
       aZ dF (⟨b2,0,none⟩:Addr) λAK qK sG=>
       lp (σ:=Int×Int×Unit) (λs57 gT k56=>match s57 with
        | (v54,v55,_)=>
        jn (σ:=Int×Unit) (λk59=>
         aZ gT (⟨b2,0,none⟩:Addr) λzb Qh UJ=>
         cr zb Qh v55 3 λp63=>
         aW .i64 gT (p63.add 0) λDl=>
         ∃v_:Int,∃fe:World,(Instr.lookup 222 (.map gh) (qI (IntKind.wrap .i64 (0 - Dl))) false).run Tryz.prog gT=.ok (qI v_) fe/\
         gd (α:=(qA×Nat×Nat)) (!(v_==0)) (λk67=>
          aZ fe (⟨b2,0,none⟩:Addr) λpU xQ xR=>
          k67 (pU,xQ,xR) fe) (none,0,0) fe λxS gB=>
         gd (α:=Addr) (!(v_==0)) (λk70=>
          cr xS.1 xS.2.1 v55 3 λp71=>
          k70 p71 gB) ⟨0,0,none⟩ gB λJU fV=>
         gd (α:=Int) (!(v_==0)) (λZM=>
          aW .i64 fV (JU.add 1) λQl=>
          ZM Ql fV) 0 fV λUM nF=>
         bC (cond (v_==0) true (UM != v20)) (
          k59 (v54,()) nF) (
          bC (v54==1) (
           ∃(xw:Addr) (og:World),(Instr.range 222 (.map gh)).run Tryz.prog nF=.ok (.pointer (some xw)) og/\
           lp (σ:=Int×(qA×Nat×Nat)×Unit) (λs83 xh k82=>match s83 with
            | (v80,(v81,Ig,MF),_)=>
            ∃(q85:Bool) (l86:List Value) (mV:World),(Instr.next (.pointer (some xw)) false 0).run Tryz.prog xh=.ok (.tuple (.bool q85 :: l86).toArray) mV/\
            bC q85 (
             ∃(Dm Gc:Int) (nG:World),(Instr.entry (.pointer (some xw))).run Tryz.prog mV=.ok (.tuple #[qI Dm,qI Gc]) nG/\
             gd (α:=Int) (Dm != (IntKind.wrap .i64 (0 - Dl))) (λk91=>
              wS Tryz.prog (.func (.func 176) #[] #[qP b2,qP b7]) [qI Dm] nG λe93 jq=>∃XT:Int,e93=Ending.returned (qI XT)/\
              k91 XT jq) 0 nG λXi za=>
             bC (cond (Dm != (IntKind.wrap .i64 (0 - Dl))) (decide (Xi>0)) false) (
              cg za [qI Dm] 3 λb96 Eo=>
              qp 59 #[.slice v81 Ig MF,.slice (some (⟨b96,0,none⟩:Addr)) 1 1] Eo λVe Vf Vg JP=>
              wS Tryz.prog (.func (.func 176) #[] #[qP b2,qP b7]) [qI Dm] JP λaaQ Ep=>∃Md:Int,aaQ=Ending.returned (qI Md)/\
              k82 ((if Md>v80 then Md else v80),(Ve,Vf,Vg),()) Ep) (
              k82 (v80,(v81,Ig,MF),()) za)) (
             cg mV [qI (IntKind.wrap .i64 (0 - Dl))] 3 λVh xg=>
             qc 65 [.slice v81 Ig MF] xg λQK ET EU yp=>
             qp 59 #[.slice (some (⟨Vh,0,none⟩:Addr)) 1 1,.slice QK ET EU] yp λQL QM QN Er=>
             R (.tuple #[.slice QL QM QN,qI v80,qI 0]) Er)) (0,(none,0,0),()) og) (
           ∃JQ:World,(Builtin.delete_ #[222,3] 0 #[.map gh,qI (IntKind.wrap .i64 (0 - Dl))]).run Tryz.prog nF=.ok (.tuple #[]) JQ/\
           aZ JQ (⟨b2,0,none⟩:Addr) λMf ae6 aoi=>
           cr Mf ae6 v55 3 λakG=>
           aZ JQ (akG.add 2) λVi XU aoj=>
           lp (σ:=Int×Int×Unit) (λakH Et akI=>match akH with
            | (QO,aaR,_)=>
            bC (decide (aaR<(XU:Int))) (
             jn (σ:=Int×Unit) (λaaS=>
              cr Vi XU aaR 1 λakJ=>
              aW .i64 Et akJ λQS=>
              aZ Et (⟨b2,0,none⟩:Addr) λakK ae7 aok=>
              cr akK ae7 v55 3 λakL=>
              aW .i64 Et (akL.add 0) λsK=>
              gd (α:=Int) (QS != sK) (λakM=>
               ∃sF:Int,∃w36:World,(Instr.lookup 222 (.map gh) (qI QS) false).run Tryz.prog Et=.ok (qI sF) w36/\
               akM sF w36) 0 Et λQT Xm=>
              bC (cond (QS != sK) (QT==0) false) (
               ∃Un:World,(Instr.mapUpdate 222 (.map gh) (qI QS) (qI 1)).run Tryz.prog Xm=.ok () Un/\
               wS Tryz.prog (.func (.func 176) #[] #[qP b2,qP b7]) [qI QS] Un λZT PI=>∃Eu:Int,ZT=Ending.returned (qI Eu)/\
               bC (Eu==v20) (
                aaS ((IntKind.wrap .i64 (QO+1)),()) PI) (
                aaS (QO,()) PI)) (
               aaS (QO,()) Xm)) λakN Xl=>match akN with
             | (v117,_)=>
             akI (v117,(IntKind.wrap .i64 (aaR+1)),()) Xl) (
             k59 (QO,()) Et)) ((IntKind.wrap .i64 (v54 - 1)),0,()) JQ))) λs60 eM=>match s60 with
        | (v58,_)=>
        k56 (v58,(IntKind.wrap .i64 (v55 - 1)),()) eM) (Gj,(IntKind.wrap .i64 ((qK:Int) - 1)),()) dF)) (0,()) cK))) (0,0,()) w6)
theorem Ih (a0 bQ cF a1 dW fU w R) (h:ae5 a0 bQ cF a1 dW fU w R):qE 140 #[.slice a0 bQ cF,.slice a1 dW fU] w R:=qv (.s .l (.s .l (.s (.s .l (.s .l (.c (.s .l .l) .l))) (.s .l (.s .l (.s .l (.s (.s .l (.b (.o [(10,.one (.int .i64)),(35,.one (.int .i64))] (.s .l (.s (.c .l .l) (.s (.b (.s .l (.s .l .l))) .l)))))) (.s (.s .l (.c (.s .l .l) .l)) (.s .l (.s (.s .l (.b (.o [(14,.one (.int .i64))] (.s .l (.s (.c .l .l) (.b (.s .l (.s .l (.c .l .l))))))))) (.s .l (.s (.s .l (.b (.o [(14,.one (.int .i64)),(17,.one (.int .i64))] (.s (.j [(14,.one (.int .i64))] (.b (.s .l (.s (.s .l (.c .l .l)) (.s (.s .l (.c .l .l)) (.s .l (.s .l (.s .l (.b (.o [(14,.one (.int .i64)),(98,.one (.int .i64))] (.s .l (.s (.c .l .l) (.s (.j [(14,.one (.int .i64))] (.b (.s .l (.s .l (.c (.s .l (.s .l (.c .l .l))) .l))))) .l))))))))))))) .l)))) (.s .l (.s (.s .l (.b (.o [(5,.one (.int .i64)),(20,.one (.x_))] (.s .l (.s (.c .l .l) (.b (.s .l (.s .l (.c (.s .l .l) .l))))))))) (.s .l .l))))))))))))))) Tryz.func140 (by kernel_rfl) (by kernel_rfl) h
theorem ae8:br qQ 140:=by kernel_rfl
def ae9 (a0:Int) (c0:Addr) (c1:Addr) (w:World) (R:qR):Prop:=
 aZ w c0 λx3 sV F5=>
 Ap w c1 λx4=>
 ∃x5:Int,∃w1:World,(Instr.lookup 222 (.map x4) (qI a0) false).run Tryz.prog w=.ok (qI x5) w1/\
 cr x3 sV (IntKind.wrap .i64 (x5 - 1)) 3 λp6=>
 aW .i64 w1 (p6.add 1) λx7=>
 R (qI x7) w1
theorem Ii (a0 c0 c1 w R) (h:ae9 a0 c0 c1 w R):qE 176 #[qI a0,.pointer (some c0),.pointer (some c1)] w R:=qv (.s .l (.s .l .l)) Tryz.func176 (by kernel_rfl) (by kernel_rfl) h
theorem afa:br qQ 176:=by kernel_rfl
def afb (a0:qA) (bQ:Nat) (cF:Nat) (a1:qA) (dW:Nat) (fU:Nat) (w:World) (R:qR):Prop:=
 cg w [.slice a0 bQ cF] 173 λb2 w1=>
 aZ w1 (⟨b2,0,none⟩:Addr) λx4 lQ sy=>
 cl Tryz.prog 174 [.slice x4 lQ sy] w1 λe6 w2=>∃x5:Option Nat,e6=Ending.returned (.map x5)/\
 cg w2 [.map none] 222 λb7 w3=>
 qS w3 b7 0 (.map x5) λw4=>
 aZ w4 (⟨b2,0,none⟩:Addr) λx9 yg Bm=>
 Ap w4 (⟨b7,0,none⟩:Addr) λdR=>
 qi 175 [.slice x9 yg Bm,.slice a1 dW fU,.map dR] w4 λfh w5=>
 bC (fh != 0) (
  R (.tuple #[.slice none 0 0,qI fh]) w5) (
  ∃fk:Option Nat,∃w6:World,(Instr.makeMap 222 none).run Tryz.prog w5=.ok (.map fk) w6/\
  cg w6 [.map none] 222 λgK w7=>
  qS w7 gK 0 (.map fk) λw8=>
  lp (σ:=Int×Unit) (λs21 w9 k20=>match s21 with
   | (v19,_)=>
   bC (decide (v19<(dW:Int))) (
    cr a1 dW v19 1 λTT=>
    aW .i64 w9 TT λiT=>
    Ap w9 (⟨gK,0,none⟩:Addr) λiI=>
    ∃cK:World,(Instr.mapUpdate 222 (.map iI) (qI iT) (qI 1)).run Tryz.prog w9=.ok () cK/\
    k20 ((IntKind.wrap .i64 (v19+1)),()) cK) (
    ∃m_:Option Nat,∃dB:World,(Instr.makeMap 222 none).run Tryz.prog w9=.ok (.map m_) dB/\
    cg dB [.map none] 222 λb31 dF=>
    qS dF b31 0 (.map m_) λeA=>
    cg eA [.nilFunc] 163 λb33 eG=>
    qS eG b33 0 (.func (.func 177) #[] #[qP b31,qP b2,qP b7,qP gK,qP b33]) λgT=>
    lp (σ:=(qA×Nat×Nat)×Int×Unit) (λs40 eM Tb=>match s40 with
     | ((v37,Vj,Vk),Gj,_)=>
     bC (decide (Gj<(dW:Int))) (
      jn (σ:=(qA×Nat×Nat)×Unit) (λk43=>
       cr a1 dW Gj 1 λN7=>
       aW .i64 eM N7 λnA=>
       Ap eM (⟨gK,0,none⟩:Addr) λng=>
       ∃vY:Int,∃gB:World,(Instr.lookup 222 (.map ng) (qI nA) false).run Tryz.prog eM=.ok (qI vY) gB/\
       bC (vY==2) (
        k43 ((v37,Vj,Vk),()) gB) (
        jn (σ:=(qA×Nat×Nat)×Unit) (λk52=>
         gd (α:=(qA×Nat×Nat)) (!(Gj==0)) (λUI=>
          aZ gB (⟨b2,0,none⟩:Addr) λBt EH EI=>
          UI (Bt,EH,EI) gB) (none,0,0) gB λxe nF=>
         gd (α:=(Option Nat)) (!(Gj==0)) (λOe=>
          Ap nF (⟨b7,0,none⟩:Addr) λxl=>
          Oe xl nF) none nF λvH og=>
         gd (α:=Int) (!(Gj==0)) (λk61=>
          ∃zb:Int,∃xh:World,(Instr.lookup 222 (.map vH) (qI nA) false).run Tryz.prog og=.ok (qI zb) xh/\
          k61 zb xh) 0 og λOa mV=>
         gd (α:=Addr) (!(Gj==0)) (λk64=>
          cr xe.1 xe.2.1 (IntKind.wrap .i64 (Oa - 1)) 3 λp65=>
          k64 p65 mV) ⟨0,0,none⟩ mV λv_ nG=>
         gd (α:=Int) (!(Gj==0)) (λk67=>
          aW .i64 nG (v_.add 1) λpU=>
          k67 pU nG) 0 nG λxS jq=>
         gd (α:=Value) ((!(Gj==0))&&(decide (xS>0))) (λk70=>
          nZ jq (⟨b33,0,none⟩:Addr) λJO=>
          k70 JO jq) undef jq λJU za=>
         gd (α:=Bool) ((!(Gj==0))&&(decide (xS>0))) (λZM=>
          wS Tryz.prog (JU) [qI nA] za λe75 Eo=>∃Ql:Bool,e75=Ending.returned (.bool Ql)/\
          ZM Ql Eo) false za λUP JP=>
         bC (cond (Gj==0) true (cond (decide (xS>0)) (!UP) false)) (
          cg JP [qI nA] 3 λb78 Ep=>
          qp 59 #[.slice v37 Vj Vk,.slice (some (⟨b78,0,none⟩:Addr)) 1 1] Ep λEF AN AO xg=>
          k52 ((EF,AN,AO),()) xg) (
          k52 ((v37,Vj,Vk),()) JP)) λs53 fV=>match s53 with
        | ((v51,akO,akP),_)=>
        Ap fV (⟨gK,0,none⟩:Addr) λUQ=>
        ∃yp:World,(Instr.mapUpdate 222 (.map UQ) (qI nA) (qI 2)).run Tryz.prog fV=.ok () yp/\
        k43 ((v51,akO,akP),()) yp)) λs44 fe=>match s44 with
      | ((v42,akQ,akR),_)=>
      Tb ((v42,akQ,akR),(IntKind.wrap .i64 (Gj+1)),()) fe) (
      R (.tuple #[.slice v37 Vj Vk,qI 0]) eM)) ((none,0,0),0,()) gT)) (0,()) w8)
theorem Ij (a0 bQ cF a1 dW fU w R) (h:afb a0 bQ cF a1 dW fU w R):qE 141 #[.slice a0 bQ cF,.slice a1 dW fU] w R:=qv (.s .l (.s .l (.s (.s .l (.s .l (.c (.s .l .l) .l))) (.s .l (.s (.s .l (.b (.o [(28,.one (.int .i64))] (.s .l (.s (.c .l .l) (.s (.b (.s .l .l)) .l)))))) (.s .l (.s .l (.s .l (.s .l (.s (.s .l (.b (.o [(13,.one (.x_)),(39,.one (.int .i64))] (.s .l (.s (.c .l .l) (.s (.j [(13,.one (.x_))] (.b (.s .l (.s (.s .l (.c .l .l)) (.s (.j [(13,.one (.x_))] (.s .l (.c .l .l))) .l))))) .l)))))) (.s .l .l))))))))))) Tryz.func141 (by kernel_rfl) (by kernel_rfl) h
theorem afc:br qQ 141:=by kernel_rfl
def afd (a0:Int) (c0:Addr) (c1:Addr) (c2:Addr) (c3:Addr) (c4:Addr) (w:World) (R:qR):Prop:=
 jn (σ:=Unit) (λk2=>
  Ap w c0 λx5=>
  ∃x6:Int,∃w2:World,(Instr.lookup 222 (.map x5) (qI a0) false).run Tryz.prog w=.ok (qI x6) w2/\
  bC (x6==0) (
   Ap w2 c0 λx8=>
   ∃w3:World,(Instr.mapUpdate 222 (.map x8) (qI a0) (qI 1)).run Tryz.prog w2=.ok () w3/\
   aZ w3 c1 λdR iS mO=>
   Ap w3 c2 λfh=>
   ∃dJ:Int,∃w4:World,(Instr.lookup 222 (.map fh) (qI a0) false).run Tryz.prog w3=.ok (qI dJ) w4/\
   cr dR iS (IntKind.wrap .i64 (dJ - 1)) 3 λrG=>
   aW .i64 w4 (rG.add 0) λdV=>
   aW .i64 w4 (rG.add 1) λeP=>
   aZ w4 (rG.add 2) λfk k_ sA=>
   cg w4 [qI 0,qI 0,.slice none 0 0] 175 λgK w5=>
   st w5 ((⟨gK,0,none⟩:Addr).add 0) (qI dV) λw6=>
   st w6 ((⟨gK,0,none⟩:Addr).add 1) (qI eP) λw7=>
   st w7 ((⟨gK,0,none⟩:Addr).add 2) (.slice fk k_ sA) λw8=>
   jn (σ:=Unit) (λt_=>
    aZ w8 ((⟨gK,0,none⟩:Addr).add 2) λj5 Ch LF=>
    bC ((Ch:Int)==0) (
     Ap w8 c0 λlR=>
     ∃cK:World,(Instr.mapUpdate 222 (.map lR) (qI a0) (qI 2)).run Tryz.prog w8=.ok () cK/\
     t_ (()) cK) (
     t_ (()) w8)) λs19 w9=>match s19 with
   | (_)=>
   aZ w9 ((⟨gK,0,none⟩:Addr).add 2) λiT ji j8=>
   lp (σ:=Int×Unit) (λs28 dB QJ=>match s28 with
    | (v26,_)=>
    bC (decide (v26<(ji:Int))) (
     cr iT ji v26 1 λLy=>
     aW .i64 dB Ly λig=>
     aW .i64 dB ((⟨gK,0,none⟩:Addr).add 0) λo_=>
     gd (α:=(qA×Nat×Nat)) (ig != o_) (λk35=>
      aZ dB c1 λtW lD lE=>
      k35 (tW,lD,lE) dB) (none,0,0) dB λnh dF=>
     gd (α:=(Option Nat)) (ig != o_) (λk38=>
      Ap dF c2 λyh=>
      k38 yh dF) none dF λDj eA=>
     gd (α:=Int) (ig != o_) (λk41=>
      ∃oC:Int,∃eG:World,(Instr.lookup 222 (.map Dj) (qI ig) false).run Tryz.prog eA=.ok (qI oC) eG/\
      k41 oC eG) 0 eA λpL gT=>
     gd (α:=Addr) (ig != o_) (λk44=>
      cr nh.1 nh.2.1 (IntKind.wrap .i64 (pL - 1)) 3 λp45=>
      k44 p45 gT) ⟨0,0,none⟩ gT λtX eM=>
     gd (α:=Int) (ig != o_) (λk47=>
      aW .i64 eM (tX.add 1) λCC=>
      k47 CC eM) 0 eM λng fe=>
     gd (α:=(Option Nat)) (cond (ig != o_) (decide (ng>0)) false) (λk50=>
      Ap fe c3 λxM=>
      k50 xM fe) none fe λxN gB=>
     gd (α:=Int) (cond (ig != o_) (decide (ng>0)) false) (λk53=>
      ∃vG:Int,∃fV:World,(Instr.lookup 222 (.map xN) (qI ig) false).run Tryz.prog gB=.ok (qI vG) fV/\
      k53 vG fV) 0 gB λBq nF=>
     gd (α:=Value) (cond (cond (ig != o_) (decide (ng>0)) false) (Bq==0) false) (λk56=>
      nZ nF c4 λxe=>
      k56 xe nF) undef nF λBr og=>
     gd (α:=Bool) (cond (cond (ig != o_) (decide (ng>0)) false) (Bq==0) false) (λk59=>
      wS Tryz.prog (Br) [qI ig] og λe61 xh=>∃vH:Bool,e61=Ending.returned (.bool vH)/\
      k59 vH xh) false og λzb mV=>
     bC (cond (cond (cond (ig != o_) (decide (ng>0)) false) (Bq==0) false) (!zb) false) (
      Ap mV c0 λDl=>
      ∃nG:World,(Instr.mapUpdate 222 (.map Dl) (qI a0) (qI 2)).run Tryz.prog mV=.ok () nG/\
      k2 (()) nG) (
      QJ ((IntKind.wrap .i64 (v26+1)),()) mV)) (
     k2 (()) dB)) (0,()) w9) (
   k2 (()) w2)) λs3 w1=>match s3 with
 | (_)=>
 Ap w1 c0 λDk=>
 ∃pU:Int,∃jq:World,(Instr.lookup 222 (.map Dk) (qI a0) false).run Tryz.prog w1=.ok (qI pU) jq/\
 R (.bool (pU==1)) jq
theorem Ik (a0 c0 c1 c2 c3 c4 w R) (h:afd a0 c0 c1 c2 c3 c4 w R):qE 177 #[qI a0,.pointer (some c0),.pointer (some c1),.pointer (some c2),.pointer (some c3),.pointer (some c4)] w R:=qv (.s .l (.s (.j [] (.s .l (.c (.s .l (.s .l (.s (.j [] (.s .l (.c .l .l))) (.s .l (.b (.o [(33,.one (.int .i64))] (.s .l (.s (.c .l .l) (.s (.b (.s .l (.s .l (.c (.s .l .l) .l)))) .l))))))))) .l))) (.s .l .l))) Tryz.func177 (by kernel_rfl) (by kernel_rfl) h
theorem XV:br qQ 177:=by kernel_rfl
def afe (a0:qA) (bQ:Nat) (cF:Nat) (a1:Int) (w:World) (R:qR):Prop:=
 qb 95 [qI a1] w λx3 w1=>
 gd (α:=Bool) x3 (λk5=>
  qb 211 [.slice a0 bQ cF,qI a1] w1 λx6 w2=>
  k5 x6 w2) false w1 λx8 w3=>
 R (.bool (cond x3 x8 false)) w3
theorem Il (a0 bQ cF a1 w R) (h:afe a0 bQ cF a1 w R):qE 210 #[.slice a0 bQ cF,qI a1] w R:=qv (.s .l (.s .l .l)) Tryz.func210 (by kernel_rfl) (by kernel_rfl) h
theorem aff:br qQ 210:=by kernel_rfl
def afg (a0:qA) (bQ:Nat) (cF:Nat) (a1:Int) (w:World) (R:qR):Prop:=
 qi 212 [.slice a0 bQ cF,qI a1] w λx3 w1=>
 R (.bool (decide (x3 >= 0))) w1
theorem Im (a0 bQ cF a1 w R) (h:afg a0 bQ cF a1 w R):qE 211 #[.slice a0 bQ cF,qI a1] w R:=qv (.s .l (.s .l .l)) Tryz.func211 (by kernel_rfl) (by kernel_rfl) h
theorem afh:br qQ 211:=by kernel_rfl
def afi (a0:qA) (bQ:Nat) (cF:Nat) (a1:Int) (w:World) (R:qR):Prop:=
 lp (σ:=Int×Unit) (λs5 w1 k4=>match s5 with
  | (v3,_)=>
  bC (decide (v3<(bQ:Int))) (
   cr a0 bQ v3 1 λp9=>
   aW .i64 w1 p9 λdR=>
   bC (a1==dR) (
    R (qI v3) w1) (
    k4 ((IntKind.wrap .i64 (v3+1)),()) w1)) (
   R (qI (-1)) w1)) (0,()) w
theorem Io (a0 bQ cF a1 w R) (h:afi a0 bQ cF a1 w R):qE 212 #[.slice a0 bQ cF,qI a1] w R:=qv (.s .l (.s (.s .l (.b (.o [(8,.one (.int .i64))] (.s .l (.s (.c .l .l) (.s (.b (.s .l (.s .l (.c (.s .l .l) .l)))) .l)))))) (.s .l .l))) Tryz.func212 (by kernel_rfl) (by kernel_rfl) h
theorem afj:br qQ 212:=by kernel_rfl
end T
namespace bU
open Go Vc T
open bt (cQ aL aA bg aO copy same aB Sl sv)
abbrev I (n:Int):Value:=.int .i64 n
abbrev i64 (x:Int):Prop:=-9223372036854775808<=x/\x<=9223372036854775807
def neg (x:Int):Int:=IntKind.wrap .i64 (0 - x)
structure En where
 lit:Int
 dM:Int
 rs:List Int
structure mF (w:World) (p:Option Addr) (n:Nat) (es:List En):Prop where
 len:es.length=n
 cell:∀(i:Nat) (x:En),es[i]?=some x->∃a q rn rc,p=some a/\w.cell? ((a.add (i*3)).add 0)=some (I x.lit)/\w.cell? ((a.add (i*3)).add 1)=some (I x.dM)/\w.cell? ((a.add (i*3)).add 2)=some (.slice q rn rc)/\cQ w q rn x.rs
def At (w:World) (a:Addr) (x:En):Prop:=∃q rn rc,w.cell? (a.add 0)=some (I x.lit)/\w.cell? (a.add 1)=some (I x.dM)/\w.cell? (a.add 2)=some (.slice q rn rc)/\cQ w q rn x.rs
section
variable {w w':World} {p:Option Addr} {n c:Nat} {es:List En}
theorem mF.aa (h:mF w p n es) (hk:af aq w w'):mF w' p n es:=⟨h.len,λi x hx=>by
 obtain ⟨a,q,rn,rc,e,c0,c1,c2,hr⟩:=h.cell i x hx;exact ⟨a,q,rn,rc,e,hk.cell c0 λh=>h,hk.cell c1 λh=>h,hk.cell c2 λh=>h,hr.aa hk⟩⟩
theorem mF.take (h:mF w p n es) {m:Nat} (hm:m<=n):mF w p m (es.take m):=⟨by have:=h.len; simp; omega,λi x hx=>by
 rw [List.getElem?_take] at hx;split at hx
 ·exact h.cell i x hx
 ·cases hx⟩
theorem mF.ix (h:mF w p n es) {i:Nat} {x:En} (hx:es[i]?=some x) {K:Addr->Prop} (hk:∀a,At w a x->K a):cr p n (i:Int) 3 K:=by
 have hl:=h.len;have hi:=(List.getElem?_eq_some_iff.1 hx).1;obtain ⟨a,q,rn,rc,rfl,c0,c1,c2,hr⟩:=h.cell i x hx;refine ⟨by omega,by omega,?_⟩;show K _;rw [Int.toNat_natCast];exact hk _ ⟨q,rn,rc,c0,c1,c2,hr⟩
theorem At.aa {a:Addr} {x:En} (h:At w a x) (hk:af aq w w'):At w' a x:=by
 obtain ⟨q,rn,rc,c0,c1,c2,hr⟩:=h;exact ⟨q,rn,rc,hk.cell c0 λh=>h,hk.cell c1 λh=>h,hk.cell c2 λh=>h,hr.aa hk⟩
def qG (w:World) (v0:Value) (v:Value) (w':World):Prop:=v=v0/\af aq w w'
theorem cZ {k:FuncId} {args:Array Value} {v0:Value} (h:Calls Tryz.prog k args w λe w'=>∃v,e=.returned v/\qG w v0 v w'):Calls Tryz.prog k args w λe w'=>e=.returned v0/\af aq w w':=
 h.mono λe w' ⟨v,he,hv,hk⟩=>⟨by rw [he,hv],hk⟩
def fl (l:Int):Bool:=decide (l≠0)&&(decide (-1048576<=l)&&decide (l<=1048576))
theorem bx {l:Int} : fl l=true↔l≠0/\ -1048576<=l/\l<=1048576:=by
 unfold fl;simp only [Bool.and_eq_true,decide_eq_true_eq]
theorem aaT (l:Int):Calls Tryz.prog 95 #[I l] w λe w'=>e=.returned (.bool (fl l))/\af aq w w':=by
 refine cZ (vX l w (qG w _) ?_);unfold V95;refine ⟨?_,af.refl _ _⟩;congr 1;rw [Bool.eq_iff_iff,bx];simp [and_assoc]
theorem QU {cs:List Int} {i:Nat} {x:Int} (hx:cs[i]?=some x):(cs.take (i+1)).all fl=((cs.take i).all fl&&fl x):=by
 rw [aB hx,List.all_append];simp
theorem aaU {cs:List Int} {x:Int} (hx:x∈cs) (h:fl x=false):cs.all fl=false:=by
 rw [List.all_eq_false];exact ⟨x,hx,by rw [h]; decide⟩
theorem J7 {cs:List Int} (h:cQ w p n cs) (hn:n<=1099511627776):Calls Tryz.prog 93 #[.slice p n c] w λe w'=>e=.returned (.bool (cs.all fl))/\af aq w w':=by
 refine cZ (Bo p n c w (qG w _) ?_);unfold V93;have hl:=h.len;refine bX (λs w1=>∃i:Nat,s.1=(i:Int)/\i<=n/\(cs.take i).all fl=true/\af aq w w1) (λs _=>(n - s.1).toNat) ⟨0,rfl,Nat.zero_le _,rfl,af.refl _ _⟩ ?_;rintro ⟨i',⟨⟩⟩ w1 ⟨i,rfl,hi,fA,k1⟩;simp only [];refine aF (λaM=>?_) λbL=>?_
 ·have aM:i<n:=by simpa using aM
  rw [aA i (by omega)];refine (h.aa k1).ix aM λa x hx ha=>ah ha (az Ea (aaT x) λe w2 ⟨he,k2⟩=>⟨_,he,?_⟩);refine aF (λhb=>⟨?_,k1.ak k2⟩) λhb=>?_
  ·rw [aaU (List.mem_of_getElem? hx) (by simpa using hb)]
  ·exact ⟨⟨i+1,rfl,aM,by rw [QU hx,fA]; simpa using hb,k1.ak k2⟩,by omega⟩
 ·have bL:i=n:=by simp at bL; omega
  subst bL;rw [<-hl,List.take_length] at fA;exact ⟨by rw [fA],k1⟩
end
end bU
namespace bU
open Go Vc T
open bt (cQ aL aA bg aO copy same aB Sl sv)
section
variable {w w':World} {p:Option Addr} {n c:Nat} {es:List En}
theorem Vl {cs:List Int} (h:cQ w p n cs) (hn:n<=1099511627776) (x:Int):Calls Tryz.prog 212 #[.slice p n c,I x] w λe w'=>∃v,e=.returned (I v)/\(0<=v↔x∈cs)/\af aq w w':=by
 refine (Io p n c x w (λr w'=>∃v,r=I v/\(0<=v↔x∈cs)/\af aq w w') ?_).mono λe w' ⟨r,he,v,hr,hk⟩=>⟨v,by rw [he,hr],hk⟩
 unfold afi;have hl:=h.len;refine bX (λs w1=>∃i:Nat,s.1=(i:Int)/\i<=n/\x∉cs.take i/\af aq w w1) (λs _=>(n - s.1).toNat) ⟨0,rfl,Nat.zero_le _,by simp,af.refl _ _⟩ ?_;rintro ⟨i',⟨⟩⟩ w1 ⟨i,rfl,hi,dO,k1⟩;simp only [];refine aF (λaM=>?_) λbL=>?_
 ·have aM:i<n:=by simpa using aM
  rw [aA i (by omega)];refine (h.aa k1).ix aM λa y hy ha=>ah ha (aF (λhe=>?_) λhe=>?_)
  ·have he:x=y:=by simpa using he
   subst he;exact ⟨i,rfl,⟨λ_=>List.mem_of_getElem? hy,λ_=>by omega⟩,k1⟩
  ·have he:¬x=y:=by simpa using he
   refine ⟨⟨i+1,rfl,aM,?_,k1⟩,by omega⟩;rw [aB hy,List.mem_append,List.mem_singleton];rintro (hh | hh)
   ·exact dO hh
   ·exact he hh
 ·have bL:i=n:=by simp at bL; omega
  subst bL;rw [<-hl,List.take_length] at dO;exact ⟨-1,rfl,⟨λh=>by omega,λh=>absurd h dO⟩,k1⟩
theorem afk {cs:List Int} (h:cQ w p n cs) (hn:n<=1099511627776) (x:Int):Calls Tryz.prog 211 #[.slice p n c,I x] w λe w'=>e=.returned (.bool (decide (x∈cs)))/\af aq w w':=by
 refine cZ (Im p n c x w (qG w _) ?_);unfold afg;refine az afj (Vl h hn x) λe w1 ⟨v,he,hv,k1⟩=>⟨v,he,?_,k1⟩
 congr 1;exact decide_eq_decide.2 hv
theorem afl {cs:List Int} (h:cQ w p n cs) (hn:n<=1099511627776) (x:Int):Calls Tryz.prog 210 #[.slice p n c,I x] w λe w'=>e=.returned (.bool (fl x&&decide (x∈cs)))/\af aq w w':=by
 refine cZ (Il p n c x w (qG w _) ?_);unfold afe;refine az Ea (aaT x) λe w1 ⟨he,k1⟩=>⟨_,he,?_⟩
 cases hf:fl x with
 | true=>exact aS rfl (az afh (afk (h.aa k1) hn x) λe w2 ⟨he,k2⟩=>⟨_,he,rfl,k1.ak k2⟩)
 | false=>exact a_ rfl ⟨rfl,k1⟩
def Pl (es:List En) (l v:Int):Prop:=(v=-1/\∀y∈es,y.lit≠neg l)\/∃(i:Nat) (x:En),v=(i:Int)/\es[i]?=some x/\x.lit=neg l/\∀y∈es.take i,y.lit≠neg l
theorem ua {es:List En} {i:Nat} {x:En} (hx:es[i]?=some x):es.take (i+1)=es.take i++[x]:=by
 rw [List.take_add_one,hx]; rfl
def eO (es:List En):Int:=match es.getLast? with | some x=>x.dM | none=>0
theorem oE {es:List En} {i:Nat} {x:En} (hx:es[i]?=some x):eO (es.take (i+1))=x.dM:=by
 rw [ua hx]; unfold eO; simp
def Lev (pre:List En) (x:En):Prop:=(x.dM=eO pre\/x.dM=IntKind.wrap .i64 (eO pre+1))/\(x.dM=0\/(x.dM≠eO pre↔x.rs=[]))
def Rsn (pre:List En) (x:En):Prop:=x.rs.all fl=true/\x.lit∈x.rs/\∀l∈x.rs,l≠x.lit->∃y∈pre,y.lit=neg l
def Good (pre:List En) (x:En):Prop:=fl x.lit=true/\(∀y∈pre,y.lit≠x.lit/\y.lit≠neg x.lit)/\Lev pre x/\(x.rs≠[]->Rsn pre x)
def Fm (es:List En):Prop:=∀(i:Nat) (x:En),es[i]?=some x->Good (es.take i) x
theorem neg_neg {l:Int} (h:fl l=true):neg (neg l)=l:=by
 have:=bx.1 h;unfold neg;rw [IntKind.wrap_i64,IntKind.wrap_i64]; omega
end
end bU
namespace bU
open Go Vc T
open bt (cQ aL aA bg aO copy same aB Sl sv)
theorem wq:Tryz.prog.underlying 222=some (.map 3 3):=Tryz.underlying222
theorem z3:(Tryz.prog.info? 3).map (·.zero)=some (some (.int .i64 0)):=by kernel_rfl
def Kn (f:List (Int×Int)) (pre:List En):Prop:=∀l,(bY l f=1/\∃y∈pre,y.lit=l)\/(bY l f=0/\∀y∈pre,y.lit≠l)
theorem Kn.pos {f:List (Int×Int)} {pre:List En} (h:Kn f pre) (l:Int):decide (bY l f>0)=true↔∃y∈pre,y.lit=l:=by
 rcases h l with ⟨e,hy⟩ | ⟨e,hn⟩
 ·rw [e]; exact ⟨λ_=>hy,λ_=>rfl⟩
 ·rw [e]; exact ⟨λh=>absurd h (by decide),λ⟨y,hy,hl⟩=>absurd hl (hn y hy)⟩
section
variable {w w':World} {p:Option Addr} {n c:Nat} {es:List En}
theorem QV {lit dM:Int} {q:Option Addr} {rn rc r:Nat} {rs:List Int} {f:List (Int×Int)} {pre:List En} (hq:cQ w q rn rs) (hrn:rn<=1099511627776) (hM:Mp w r f) (hK:Kn f pre) :
  Calls Tryz.prog 206 #[.agg #[I lit,I dM,.slice q rn rc],.map (some r)] w λe w'=>∃b,e=.returned (.bool b)/\(b=true↔Rsn pre ⟨lit,dM,rs⟩)/\af aq w w':=by
 refine (Ib lit dM q rn rc (some r) w (λv w'=>∃b,v=.bool b/\(b=true↔Rsn pre ⟨lit,dM,rs⟩)/\af aq w w') ?_).mono λe w' ⟨r,he,v,hr,hk⟩=>⟨v,by rw [he,hr],hk⟩
 unfold ae1;refine aD λb w1 hb hB k1=>?_;simp only [ag,Nat.add_zero,Nat.zero_add];have XW:=hq.len;refine au (hB.cell 2) (ah (hB.cell 0) (az aff (afl (hq.aa k1) hrn lit) λe w2 ⟨he,k2⟩=>⟨_,he,?_⟩));have uP:=k1.ak k2;have bH:=hB.aa k2;by_cases hh:fl lit=true/\lit∈rs
 ·have e1:(fl lit&&decide (lit∈rs))=true:=by rw [hh.1,decide_eq_true hh.2]; rfl
  rw [e1];refine aS rfl (au (bH.cell 2) (aS rfl (az LC (J7 (hq.aa uP) hrn) λe w3 ⟨he,k3⟩=>⟨_,he,?_⟩)));have oF:=uP.ak k3;have bP:=bH.aa k3;cases hs:rs.all fl with
  | false=>exact aX rfl ⟨false,rfl,⟨(λh=>by cases h),λh=>by have:=h.1; simp only [] at this; rw [hs] at this; cases this⟩,oF⟩
  | true=>
   refine aT rfl (au (bP.cell 2) ?_);refine bX (λs w'=>∃j:Nat,s.1=(j:Int)/\j<=rn/\(∀l∈rs.take j,l≠lit->∃y∈pre,y.lit=neg l)/\af aq w w'/\af aq w1 w') (λs _=>(rn - s.1).toNat) ⟨0,rfl,Nat.zero_le _,by simp,oF,k2.ak k3⟩ ?_;rintro ⟨j',⟨⟩⟩ w4 ⟨j,rfl,hj,fA,k4,lq⟩;simp only [];refine aF (λaM=>?_) λbL=>?_
   ·have aM:j<rn:=by simpa using aM
    rw [aA j (by omega)];refine (hq.aa k4).ix aM λa l hl ha=>ah ha (ah ((hB.aa lq).cell 0) ?_);have Og:(l≠lit->∃y∈pre,y.lit=neg l)->∀l'∈rs.take (j+1),l'≠lit->∃y∈pre,y.lit=neg l':=λh l' jh bz=>by
     rw [aB hl,List.mem_append,List.mem_singleton] at jh;rcases jh with jh | rfl
     ·exact fA l' jh bz
     ·exact h bz
    by_cases bz:l=lit
    ·have e0:(l != lit)=false:=by simp [bz]
     exact a_ e0 (aT (by rw [e0]; rfl) ⟨⟨j+1,rfl,aM,Og λh=>absurd bz h,k4,lq⟩,by omega⟩)
    ·have e0:(l != lit)=true:=by simpa using bz
     refine aS e0 (lC wq Tryz.underlying3 z3 (hM.aa k4) ?_);show bC (cond (l != lit) (bY (neg l) f==0) false) _ _;rw [e0];rcases hK (neg l) with ⟨e,hy⟩ | ⟨e,hn⟩
     ·rw [e];exact aT rfl ⟨⟨j+1,rfl,aM,Og λ_=>hy,k4,lq⟩,by omega⟩
     ·rw [e];refine aX rfl ⟨false,rfl,⟨(λh=>by cases h),λh=>?_⟩,k4⟩;obtain ⟨y,hy,iB⟩:=h.2.2 l (List.mem_of_getElem? hl) bz;exact absurd iB (hn y hy)
   ·have bL:j=rn:=by simp at bL; omega
    subst bL;rw [<-XW,List.take_length] at fA;exact ⟨true,rfl,⟨λ_=>⟨hs,hh.2,fA⟩,λ_=>rfl⟩,k4⟩
 ·have e1:(fl lit&&decide (lit∈rs))=false:=by
   rw [Bool.and_eq_false_iff,decide_eq_false_iff_not];by_cases h:fl lit=true
   ·exact Or.inr λhm=>hh ⟨h,hm⟩
   ·exact Or.inl (by simpa using h)
  rw [e1];refine a_ rfl (a_ rfl (aX rfl ⟨false,rfl,⟨(λh=>by cases h),λh=>absurd ⟨?_,h.2.1⟩ hh⟩,uP⟩));exact (List.all_eq_true.1 h.1) lit h.2.1
theorem gdV {b:Bool} {k:IntKind} {a:Addr} {x:Int} {K:Int->World->Prop} (h:w.cell? a=some (.int k x)) (hk:∀y,(b=true->y=x)->K y w):gd (α:=Int) b (λk'=>aW k w a λy=>k' y w) 0 w K:=by
 cases b with
 | true=>exact aS rfl (ah h (hk x λ_=>rfl))
 | false=>exact a_ rfl (hk 0 λh=>by cases h)
theorem akS {b:Bool} {a:Addr} {q:Option Addr} {rn rc:Nat} {K:Option Addr×Nat×Nat->World->Prop} (h:w.cell? a=some (.slice q rn rc)) (hk:∀y,(b=true->y=(q,rn,rc))->K y w):gd (α:=Option Addr×Nat×Nat) b (λk'=>aZ w a λx n c=>k' (x,n,c) w) (none,0,0) w K:=by
 cases b with
 | true=>exact aS rfl (au h (hk _ λ_=>rfl))
 | false=>exact a_ rfl (hk _ λh=>by cases h)
theorem Kn.add {f:List (Int×Int)} {pre:List En} (h:Kn f pre) {x:En} (dO:∀y∈pre,y.lit≠x.lit):Kn (gV x.lit (IntKind.wrap .i64 (bY x.lit f+1)) f) (pre++[x]):=λl=>by
 have e0:bY x.lit f=0:=by
  rcases h x.lit with ⟨_,y,hy,hl⟩ | ⟨e,_⟩
  ·exact absurd hl (dO y hy)
  ·exact e
 rw [iy,e0];by_cases hl:l=x.lit
 ·rw [if_pos hl];exact Or.inl ⟨by decide +kernel,x,by simp,hl.symm⟩
 ·rw [if_neg hl];rcases h l with ⟨e,y,hy,iB⟩ | ⟨e,hn⟩
  ·exact Or.inl ⟨e,y,by simp [hy],iB⟩
  ·refine Or.inr ⟨e,λy hy=>?_⟩;rw [List.mem_append,List.mem_singleton] at hy;rcases hy with hy | rfl
   ·exact hn y hy
   ·exact λe=>hl e.symm
theorem QW (h:mF w p n es) (hn:n<=1099511627776) (hr:∀x∈es,x.rs.length<=1099511627776) :
  Calls Tryz.prog 197 #[.slice p n c] w λe w'=>∃b,e=.returned (.bool b)/\(b=true↔Fm es)/\af aq w w':=by
 refine (Ia p n c w (λr w'=>∃b,r=.bool b/\(b=true↔Fm es)/\af aq w w') ?_).mono λe w' ⟨r,he,v,hr,hk⟩=>⟨v,by rw [he,hr],hk⟩
 unfold aeZ;have hl:=h.len;refine uB λr w1 hrw hM k1=>?_;refine bX (λs w'=>∃(i:Nat) (f:List (Int×Int)),s.2.1=(i:Int)/\i<=n/\s.1=eO (es.take i)/\0<=s.1/\s.1<=i/\(∀j x,j<i->es[j]?=some x->Good (es.take j) x)/\af aq w w'/\Mp w' r f/\Kn f (es.take i)) (λs _=>(n - s.2.1).toNat)
  ⟨0,[],rfl,Nat.zero_le _,rfl,by simp,by simp,(λj x hj=>by omega),k1,hM,λl=>Or.inr ⟨rfl,λy hy=>by cases hy⟩⟩ ?_
 rintro ⟨a,i',⟨⟩⟩ w2 ⟨i,f,rfl,hi,ha,ha0,ha1,fA,k2,hM2,hK⟩;simp only [] at ha ha0 ha1 ⊢;refine aF (λaM=>?_) λbL=>?_
 ·have aM:i<n:=by simpa using aM
  rw [aA i (by omega)];obtain ⟨x,hx⟩:=bg (show i<es.length by omega);have hrx:=hr x (List.mem_of_getElem? hx);refine (h.aa k2).ix hx λad ⟨q,rn,rc,c0,c1,c2,hq⟩=>ah c0 (ah c1 (au c2 ?_));have XW:=hq.len;refine aD λb w3 hb hB k3=>?_;simp only [ag,Nat.add_zero,Nat.zero_add];refine aG hB (by simp) rfl λw4 gJ k4 _=>?_;refine aG gJ (by simp) rfl λw5 oe k5 _=>?_;refine aG oe (by simp) rfl λw6 rI k6 _=>?_;have uW:af aq w2 w6:=((k3.bw k4 (by omega)).bw k5 (by omega)).bw k6 (by omega);simp only [List.set_cons_zero,List.set_cons_succ] at rI;have Dp:=k2.ak uW;have hM6:=hM2.aa uW;have hq6:=hq.aa uW;have no:∀{w':World},af aq w w'->¬Good (es.take i) x->∃b,(.bool false:Value)=.bool b/\(b=true↔Fm es)/\af aq w w':=λk hg=>⟨false,rfl,⟨(λh=>by cases h),λh=>absurd (h i x hx) hg⟩,k⟩
  have ew:IntKind.wrap .i64 (a+1)=a+1:=by rw [IntKind.wrap_i64]; omega
  rw [ew]
  -- is it a aiL first?
  refine gdV (rI.cell 1) λy20 XX=>gdV (rI.cell 1) λy23 Oh=>?_;have eF:(cond (cond ((i:Int)==0) (y20==1) false) true (cond (decide ((i:Int)>0)) (y23==a+1) false))=decide (x.dM=a+1):=by
   by_cases h0:i=0
   ·subst h0;have e0:a=0:=by rw [ha]; rfl
    rw [XX rfl,e0];simp [beq_iff_eq];rw [Bool.eq_iff_iff];simp
   ·have e0:((i:Int)==0)=false:=by simpa using h0
    have e1:decide ((i:Int)>0)=true:=decide_eq_true (by omega);rw [Oh (by rw [e0,e1]; rfl),e0,e1];rw [Bool.eq_iff_iff];simp
  rw [eF];refine gdV (rI.cell 1) λy27 h27=>?_;by_cases fG:x.dM=a+1\/x.dM=a
  ·have eC:(cond (!decide (x.dM=a+1)) (y27 != a) false)=false:=by
    by_cases h1:x.dM=a+1
    ·simp [h1]
    ·have:y27=x.dM:=h27 (by simp [h1]);have h2:=fG.resolve_left h1;simp [h1,this,h2]
   rw [eC];refine aS rfl (ah (rI.cell 0) (aS rfl (lC wq Tryz.underlying3 z3 hM6 ?_)));by_cases hp1:∃y∈es.take i,y.lit=x.lit
   ·have e1:=(hK.pos x.lit).2 hp1;rw [e1];refine a_ rfl (a_ rfl (a_ rfl (a_ rfl (aX rfl (no Dp λh=>?_)))));obtain ⟨y,hy,iB⟩:=hp1;exact (h.2.1 y hy).1 iB
   have e1:decide (bY x.lit f>0)=false:=by
    rw [<-Bool.not_eq_true]; exact λh=>hp1 ((hK.pos x.lit).1 h)
   rw [e1];refine aS rfl (ah (rI.cell 0) (aS rfl (lC wq Tryz.underlying3 z3 hM6 ?_)));by_cases tq:∃y∈es.take i,y.lit=neg x.lit
   ·have e2:decide (bY (IntKind.wrap .i64 (0 - x.lit)) f>0)=true:=(hK.pos (neg x.lit)).2 tq;rw [e2];refine a_ rfl (a_ rfl (aX rfl (no Dp λh=>?_)));obtain ⟨y,hy,iB⟩:=tq;exact (h.2.1 y hy).2 iB
   have e2:decide (bY (IntKind.wrap .i64 (0 - x.lit)) f>0)=false:=by
    rw [<-Bool.not_eq_true]; exact λh=>tq ((hK.pos (neg x.lit)).1 h)
   rw [e2];refine aS rfl (ah (rI.cell 0) (aS rfl (az Ea (aaT x.lit) λe w7 ⟨he,k7⟩=>⟨_,he,?_⟩)));have By:=Dp.ak k7;have mU:=rI.aa k7;have Ip:=hM6.aa k7;have hq7:=hq6.aa k7;cases hf:fl x.lit with
   | false=>exact aX rfl (no By λh=>by have:=h.1; rw [hf] at this; cases this)
   | true=>
    have XY:∀y∈es.take i,y.lit≠x.lit/\y.lit≠neg x.lit:=λy hy=>⟨λe=>hp1 ⟨y,hy,e⟩,λe=>tq ⟨y,hy,e⟩⟩
    refine aT rfl (ah (mU.cell 1) (akS (mU.cell 2) λy53 h53=>?_));have Pv:x.rs=[]↔rn=0:=by rw [<-List.length_eq_zero_iff,XW]
    have J9:x.dM=eO (es.take i)\/x.dM=IntKind.wrap .i64 (eO (es.take i)+1):=by
     rw [<-ha,ew]; exact fG.symm
    by_cases hD:x.dM=0\/(x.dM≠a↔x.rs=[])
    ·have eD:(cond (decide (x.dM>0)) (!((decide (x.dM=a+1))==((y53.2.1:Int)==0))) false)=false:=by
      by_cases hp:x.dM>0
      ·have hy:=h53 (decide_eq_true hp);rw [hy,decide_eq_true hp];have hd:=hD.resolve_left (by omega);rw [Pv] at hd;simp only [cond_true,Bool.not_eq_false',beq_iff_eq];rw [Bool.eq_iff_iff,decide_eq_true_eq,beq_iff_eq];omega
      ·rw [decide_eq_false hp]; rfl
     rw [eD];refine aS rfl (au (mU.cell 2) ?_);have akT:Lev (es.take i) x:=⟨J9,by rw [<-ha]; exact hD⟩
     -- U8 comes last
     have last:(x.rs≠[]->Rsn (es.take i) x)->∀{w8:World},af aq w7 w8->
       aW .i64 w8 ⟨b,0,none⟩ λpU=>∃xS:Int,∃nG:World,(Instr.lookup 222 (.map (some r)) (.int .i64 pU) false).run Tryz.prog w8=.ok (.int .i64 xS) nG/\
       ∃jq:World,(Instr.mapUpdate 222 (.map (some r)) (.int .i64 pU) (.int .i64 (IntKind.wrap .i64 (xS+1)))).run Tryz.prog nG=.ok () jq/\
       ((∃(j:Nat) (f:List (Int×Int)),((i+1:Nat):Int)=(j:Int)/\j<=n/\x.dM=eO (es.take j)/\0<=x.dM/\x.dM<=j/\(∀j' x,j'<j->es[j']?=some x->Good (es.take j') x)/\af aq w jq/\Mp jq r f/\Kn f (es.take j))/\((n:Int) - ((i+1:Nat):Int)).toNat<((n:Int) - (i:Int)).toNat):=by
      intro hh w8 k8;refine ah ((mU.aa k8).cell 0) (lC wq Tryz.underlying3 z3 (Ip.aa k8) (y8 wq Tryz.underlying3 (Ip.aa k8) λw9 hM9 k9 _=>⟨⟨i+1,_,rfl,aM,(oE hx).symm,by omega,by omega,λj y hj hy=>?_,?_,hM9,?_⟩,by omega⟩))
      ·by_cases DY:j=i
       ·subst DY;rw [hx] at hy;injection hy with hy;subst hy;exact ⟨hf,XY,akT,hh⟩
       ·exact fA j y (by omega) hy
      ·exact (By.ak k8).trans k9 λj hj hh=>by have:j=r:=hh; omega
      ·rw [ua hx];exact hK.add λy hy=>(XY y hy).1
     by_cases hr0:0<rn
     ·have bz:x.rs≠[]:=λe=>by have:=Pv.1 e; omega
      have e4:((!false)&&(decide ((rn:Int)>0)))=true:=by rw [decide_eq_true (by omega)]; rfl
      refine aS e4 (ah (mU.cell 0) (ah (mU.cell 1) (au (mU.cell 2) (aS e4 ?_))));refine az ae2 (QV (lit:=x.lit) (dM:=x.dM) (q:=q) (rn:=rn) (rc:=rc) (pre:=es.take i) hq7 (by omega) Ip hK) λe w8 ⟨v,he,hv,k8⟩=>⟨v,he,?_⟩
      have e5:decide ((rn:Int)>0)=true:=decide_eq_true (by omega);cases v with
      | false=>exact aX (by rw [e5]; rfl) (no (By.ak k8) λh=>by have:=hv.2 (h.2.2.2 bz); cases this)
      | true=>exact aT (by rw [e5]; rfl) (last (λ_=>hv.1 rfl) k8)
     ·have Ir:x.rs=[]:=Pv.2 (by omega);have e5:decide ((rn:Int)>0)=false:=decide_eq_false (by omega);have e4:((!false)&&(decide ((rn:Int)>0)))=false:=by rw [e5]; rfl
      exact a_ e4 (a_ e4 (aT (by rw [e5]; rfl) (last (λh=>absurd Ir h) (af.refl _ _))))
    ·have eD:(cond (decide (x.dM>0)) (!((decide (x.dM=a+1))==((y53.2.1:Int)==0))) false)=true:=by
      have hp:x.dM>0:=by
       have:¬x.dM=0:=λe=>hD (Or.inl e);omega
      have hy:=h53 (decide_eq_true hp);have hd:¬(x.dM≠a↔rn=0):=λe=>hD (Or.inr (by rw [Pv]; exact e));rw [hy,decide_eq_true hp];simp only [cond_true,Bool.not_eq_true',beq_eq_false_iff_ne,ne_eq];rw [Bool.eq_iff_iff,decide_eq_true_eq,beq_iff_eq];omega
     rw [eD];refine a_ rfl (a_ rfl (a_ rfl (aX rfl (no By λh=>?_))));have:=h.2.2.1.2;rw [<-ha] at this;exact hD this
  ·have eC:(cond (!decide (x.dM=a+1)) (y27 != a) false)=true:=by
    have h1:¬x.dM=a+1:=λe=>fG (Or.inl e);have h2:¬x.dM=a:=λe=>fG (Or.inr e);have:y27=x.dM:=h27 (by simp [h1]);simp [h1,this,h2]
   rw [eC];refine a_ rfl (a_ rfl (a_ rfl (a_ rfl (a_ rfl (a_ rfl (aX rfl (no Dp λh=>?_)))))));have:=h.2.2.1.1;rw [<-ha,ew] at this;exact fG this.symm
 ·have bL:i=n:=by simp at bL; omega
  subst bL;exact ⟨true,rfl,⟨λ_ i x hx=>fA i x (by have:=(List.getElem?_eq_some_iff.1 hx).1; omega) hx,λ_=>rfl⟩,k2⟩
end
end bU
namespace bU
open Go Vc T
open bt (cQ aL aA bg aO copy same aB Sl sv)
def Pm (f:List (Int×Int)) (es:List En):Prop:=∀l,(bY l f=0/\∀y∈es,neg y.lit≠l)\/∃(i:Nat) (x:En),bY l f=(i:Int)+1/\es[i]?=some x/\neg x.lit=l
section
variable {w w':World} {p q:Option Addr} {n m c d:Nat} {es:List En} {cs:List Int}
theorem EV (h:mF w p n es) (hn:n<=1099511627776):Calls Tryz.prog 174 #[.slice p n c] w λe w'=>∃r f,e=.returned (.map (some r))/\w.heap.size<=r/\Mp w' r f/\Pm f es/\af aq w w':=by
 refine (Ic p n c w (λv w'=>∃r f,v=.map (some r)/\w.heap.size<=r/\Mp w' r f/\Pm f es/\af aq w w') ?_).mono λe w' ⟨v,he,r,f,hv,hk⟩=>⟨r,f,by rw [he,hv],hk⟩
 unfold ae3;have hl:=h.len;refine uB λr w1 hrw hM k1=>?_;refine bX (λs w'=>∃(i:Nat) (f:List (Int×Int)),s.1=(i:Int)/\i<=n/\af aq w w'/\Mp w' r f/\Pm f (es.take i)) (λs _=>(n - s.1).toNat)
  ⟨0,[],rfl,Nat.zero_le _,k1,hM,λl=>Or.inl ⟨rfl,λy hy=>by cases hy⟩⟩ ?_
 rintro ⟨i',⟨⟩⟩ w2 ⟨i,f,rfl,hi,k2,hM2,hP⟩;simp only [];refine aF (λaM=>?_) λbL=>?_
 ·have aM:i<n:=by simpa using aM
  rw [aA i (by omega)];obtain ⟨x,hx⟩:=bg (show i<es.length by omega);refine (h.aa k2).ix hx λad ⟨s,rn,rc,c0,c1,c2,hs⟩=>ah c0 (ah c1 (au c2 ?_));refine aD λb w3 hb hB k3=>?_;simp only [ag,Nat.add_zero,Nat.zero_add];refine aG hB (by simp) rfl λw4 gJ k4 _=>?_;refine aG gJ (by simp) rfl λw5 oe k5 _=>?_;refine aG oe (by simp) rfl λw6 rI k6 _=>?_;have uW:af aq w2 w6:=((k3.bw k4 (by omega)).bw k5 (by omega)).bw k6 (by omega);simp only [List.set_cons_zero,List.set_cons_succ] at rI;have Dp:=k2.ak uW;refine ah (rI.cell 0) (y8 wq Tryz.underlying3 (hM2.aa uW) λw7 Ip k7 _=>⟨⟨i+1,_,rfl,aM,Dp.trans k7 λj hj hh=>by have:j=r:=hh; omega,Ip,λl=>?_⟩,by omega⟩);rw [iy,ua hx];by_cases Dq:l=IntKind.wrap .i64 (0 - x.lit)
  ·rw [if_pos Dq];refine Or.inr ⟨i,x,by omega,?_,Dq.symm⟩;rw [List.getElem?_append_right (by simp; omega)];have:i - (es.take i).length=0:=by simp; omega
   rw [this]; rfl
  ·rw [if_neg Dq];rcases hP l with ⟨e,dO⟩ | ⟨j,y,e,hy,iB⟩
   ·refine Or.inl ⟨e,λy hy=>?_⟩;rw [List.mem_append,List.mem_singleton] at hy;rcases hy with hy | rfl
    ·exact dO y hy
    ·exact λe=>Dq e.symm
   ·have hj:=(List.getElem?_eq_some_iff.1 hy).1;exact Or.inr ⟨j,y,e,by rw [List.getElem?_append_left hj]; exact hy,iB⟩
 ·have bL:i=n:=by simp at bL; omega
  subst bL;rw [<-hl,List.take_length] at hP;exact ⟨r,f,rfl,by omega,hM2,hP,k2⟩
theorem CO (hF:Fm es) {l:Int} (hl:fl l=true) {i j:Nat} {x y:En} (hx:es[i]?=some x) (hy:es[j]?=some y) (h1:x.lit=l\/x.lit=neg l) (h2:y.lit=l\/y.lit=neg l):i=j:=by
 have aux:∀{i j:Nat} {x y:En},es[i]?=some x->es[j]?=some y->(x.lit=l\/x.lit=neg l)->(y.lit=l\/y.lit=neg l)->¬i<j:=by
  intro i j x y hx hy h1 h2 aM;have hm:x∈es.take j:=List.mem_iff_getElem?.2 ⟨i,by rw [List.getElem?_take,if_pos aM]; exact hx⟩;have hg:=(hF j y hy).2.1 x hm;have Va:=neg_neg hl;rcases h1 with h1 | h1<;>rcases h2 with h2 | h2
  ·exact hg.1 (h1.trans h2.symm)
  ·exact hg.2 (by rw [h2,Va]; exact h1)
  ·exact hg.2 (by rw [h2]; exact h1)
  ·exact hg.1 (h1.trans h2.symm)
 have a1:=aux hx hy h1 h2;have a2:=aux hy hx h2 h1;omega
def Is (S:List Int) (L:Int):List Int:=if L∈S then S else S++[L]
theorem MG (k v:Int):∀f:List (Int×Int),(gV k v f).map (λp:Int×Int=>p.1)=Is (f.map λp:Int×Int=>p.1) k:=by
 intro f;induction f with
 | nil=>simp [gV,Is]
 | cons p f ih=>
  unfold gV;by_cases h:p.1=k
  ·rw [if_pos h];simp [Is,h]
  ·rw [if_neg h,List.map_cons,ih,List.map_cons];unfold Is;have h':¬k=p.1:=λe=>h e.symm;by_cases hm:k∈f.map λp:Int×Int=>p.1
   ·rw [if_pos hm,if_pos (List.mem_cons_of_mem _ hm)]
   ·rw [if_neg hm,if_neg (by rw [List.mem_cons]; exact λe=>e.elim h' hm)]; rfl
end
end bU
namespace bU
open Go Vc T
open bt (cQ aL aA bg aO copy same aB Sl sv AG)
theorem dP {k:FuncId} {first cap:Array Value} {args:List Value} {w:World} {R:Ending->World->Prop} (h:cl Tryz.prog k (first.toList++args++cap.toList) w R) :
  wS Tryz.prog (.func (.func k) first cap) args w R:=⟨k,first,cap,rfl,h⟩
theorem yy {w:World} {r:Nat} {f:List (Int×Int)} {a:Addr} {v:Value} (hM:Mp w r f) (h:w.cell? a=some v):a.block≠r:=by
 rintro rfl;obtain ⟨es,clock,hb,_⟩:=hM;simp [World.cell?,hb] at h
section
variable {w w':World} {p:Option Addr} {n c r:Nat} {es:List En} {cs:List Int} {f:List (Int×Int)}
theorem wu (h:cQ w p n cs) (hM:Mp w r f) (hk:af (One r) w w'):cQ w' p n cs:=⟨h.len,λi x hx=>by
 obtain ⟨a,e,hc⟩:=h.cell i x hx;exact ⟨a,e,hk.cell hc (yy hM hc)⟩⟩
theorem Bz (h:mF w p n es) (hM:Mp w r f) (hk:af (One r) w w'):mF w' p n es:=⟨h.len,λi x hx=>by
 obtain ⟨a,q,rn,rc,e,c0,c1,c2,hr⟩:=h.cell i x hx;exact ⟨a,q,rn,rc,e,hk.cell c0 (yy hM c0),hk.cell c1 (yy hM c1),hk.cell c2 (yy hM c2),wu hr hM hk⟩⟩
theorem aaV {b:Nat} {vs:List Value} {t:TypeId} (hB:b_ w b vs t) (hM:Mp w r f):b≠r:=by
 rintro rfl;obtain ⟨es,clock,hb,_⟩:=hM;unfold b_ at hB;rw [hB] at hb;cases hb
theorem dH {b:Nat} {vs:List Value} {t:TypeId} (hB:b_ w b vs t) (hM:Mp w r f) (hk:af (One r) w w'):b_ w' b vs t:=hB.ax hk (aaV hB hM)
end
inductive oh (es:List En) (cl:List Int):Nat->Prop
 | mk {i:Nat} {x:En} (hx:es[i]?=some x) (bz:x.rs≠[]) (h:∀o∈x.rs,o≠x.lit->∀(a:Nat) (y:En),es[a]?=some y->y.lit=neg o->0<y.dM->o∉cl->oh es cl a):oh es cl i
structure Ev (w:World) (es:List En) (cl:List Int) (b0 b1 b2 b3 b4 r0 r1 r3:Nat) (p:Option Addr) (n c:Nat) (fa fs:List (Int×Int)):Prop where
 kn:b_ w b0 [.map (some r0)] 222
 tr:b_ w b1 [.slice p n c] 173
 jr:b_ w b2 [.map (some r1)] 222
 st:b_ w b3 [.map (some r3)] 222
 fn:b_ w b4 [.func (.func 177) #[] #[.pointer (some ⟨b0,0,none⟩),.pointer (some ⟨b1,0,none⟩),.pointer (some ⟨b2,0,none⟩),.pointer (some ⟨b3,0,none⟩),.pointer (some ⟨b4,0,none⟩)]] 163
 rd:mF w p n es
 am:Mp w r1 fa
 sm:Mp w r3 fs
 d1:r1≠r0
 d3:r3≠r0
 pm:Pm fa es
 sp:∀o,bY o fs=0↔o∉cl
section
variable {w w':World} {es:List En} {cl:List Int} {b0 b1 b2 b3 b4 r0 r1 r3:Nat} {p:Option Addr} {n c:Nat} {fa fs f:List (Int×Int)}
theorem Ev.EW (h:Ev w es cl b0 b1 b2 b3 b4 r0 r1 r3 p n c fa fs) (hM:Mp w r0 f) (hk:af (One r0) w w'):Ev w' es cl b0 b1 b2 b3 b4 r0 r1 r3 p n c fa fs:=
 ⟨dH h.kn hM hk,dH h.tr hM hk,dH h.jr hM hk,dH h.st hM hk,dH h.fn hM hk,Bz h.rd hM hk,h.am.ax hk h.d1,h.sm.ax hk h.d3,h.d1,h.d3,h.pm,h.sp⟩
theorem Ev.aa (h:Ev w es cl b0 b1 b2 b3 b4 r0 r1 r3 p n c fa fs) (hk:af aq w w'):Ev w' es cl b0 b1 b2 b3 b4 r0 r1 r3 p n c fa fs:=
 ⟨h.kn.aa hk,h.tr.aa hk,h.jr.aa hk,h.st.aa hk,h.fn.aa hk,h.rd.aa hk,h.am.aa hk,h.sm.aa hk,h.d1,h.d3,h.pm,h.sp⟩
theorem wv (hF:Fm es) {i j:Nat} {x y:En} (hx:es[i]?=some x) (hy:es[j]?=some y) (h:neg x.lit=neg y.lit):i=j:=by
 have f1:=(hF i x hx).1;have f2:=(hF j y hy).1;have e:x.lit=y.lit:=by rw [<-neg_neg f1,h,neg_neg f2]
 exact CO hF f1 hx hy (Or.inl rfl) (Or.inl e.symm)
theorem J_ (hF:Fm es) (hP:Pm fa es) {i:Nat} {x:En} (hx:es[i]?=some x):bY (neg x.lit) fa=(i:Int)+1:=by
 rcases hP (neg x.lit) with ⟨_,h⟩ | ⟨j,y,e,hy,iB⟩
 ·exact absurd rfl (h x (List.mem_of_getElem? hx))
 ·rw [e,wv hF hy hx iB]
def Kv (es:List En) (cl:List Int) (f:List (Int×Int)) (i:Nat):Prop:=∀j y,j<=i->es[j]?=some y->bY (neg y.lit) f=0\/(bY (neg y.lit) f=1/\oh es cl j)\/(bY (neg y.lit) f=2/\¬oh es cl j)
def Fr (es:List En) (f f':List (Int×Int)) (i:Nat):Prop:=∀k,(∀j y,j<=i->es[j]?=some y->neg y.lit≠k)->bY k f'=bY k f
def Told (es:List En) (cl:List Int) (w:World) (r0:Nat) (f:List (Int×Int)) (i:Nat) (v:Value) (w':World):Prop:=
 ∃b f',v=.bool b/\(b=true↔oh es cl i)/\Mp w' r0 f'/\Kv es cl f' i/\Fr es f f' i/\af (One r0) w w'
theorem MH (hF:Fm es) (hn:n<=1048576) (hr:∀x∈es,x.rs.length<=1048576):∀(i:Nat) (x:En) (w:World) (f:List (Int×Int)),es[i]?=some x->Ev w es cl b0 b1 b2 b3 b4 r0 r1 r3 p n c fa fs->Mp w r0 f->Kv es cl f i->
  Calls Tryz.prog 177 #[I (neg x.lit),.pointer (some ⟨b0,0,none⟩),.pointer (some ⟨b1,0,none⟩),.pointer (some ⟨b2,0,none⟩),.pointer (some ⟨b3,0,none⟩),.pointer (some ⟨b4,0,none⟩)] w λe w'=>∃v,e=.returned v/\Told es cl w r0 f i v w':=by
 intro i;induction i using Nat.strongRecOn with
 | ind i ih=>
 intro x w f hx hE hM hK;have hlen:=hE.rd.len;have hi:=(List.getElem?_eq_some_iff.1 hx).1;have hg:=hF i x hx;have hrx:=hr x (List.mem_of_getElem? hx);refine Ik (neg x.lit) ⟨b0,0,none⟩ ⟨b1,0,none⟩ ⟨b2,0,none⟩ ⟨b3,0,none⟩ ⟨b4,0,none⟩ w (Told es cl w r0 f i) ?_;unfold afd;refine ⟨λ_ w'=>∃f',((bY (neg x.lit) f'=1/\oh es cl i)\/(bY (neg x.lit) f'=2/\¬oh es cl i))/\Mp w' r0 f'/\Kv es cl f' i/\Fr es f f' i/\af (One r0) w w',?_,?_⟩
 ·refine fH (hE.kn.cell 0) (lC wq Tryz.underlying3 z3 hM (aF (λh0=>?_) λh0=>?_))
  ·have h0:bY (neg x.lit) f=0:=by simpa using h0
   refine fH (hE.kn.cell 0) (y8 wq Tryz.underlying3 hM λw3 hM3 k3 _=>?_);have XZ:=hE.EW hM k3;refine au (XZ.tr.cell 0) (fH (XZ.jr.cell 0) (lC wq Tryz.underlying3 z3 XZ.am ?_));rw [J_ hF hE.pm hx];have ei:IntKind.wrap .i64 ((i:Int)+1 - 1)=(i:Int):=by rw [IntKind.wrap_i64]; omega
   rw [ei];refine XZ.rd.ix hx λad ⟨q,rn,rc,c0,c1,c2,hq⟩=>ah c0 (ah c1 (au c2 ?_));have XW:=hq.len;refine aD λb w4 hb hB k4=>?_;simp only [ag,Nat.add_zero,Nat.zero_add];refine aG hB (by simp) rfl λw5 oe k5 _=>?_;refine aG oe (by simp) rfl λw6 rI k6 _=>?_;refine aG rI (by simp) rfl λw7 mU k7 _=>?_;have Mq:af aq w3 w7:=((k4.bw k5 (by omega)).bw k6 (by omega)).bw k7 (by omega);simp only [List.set_cons_zero,List.set_cons_succ] at mU;have hE7:=XZ.aa Mq;have Ip:=hM3.aa Mq;have hq7:=hq.aa Mq;have By:af (One r0) w w7:=k3.trans Mq λj _ h=>h.elim;generalize Oi:gV (neg x.lit) 1 f=f3 at *
   have QX:∀k,bY k f3=if k=neg x.lit then 1 else bY k f:=λk=>by rw [<-Oi,iy]
   have kv3:∀j y,j<i->es[j]?=some y->bY (neg y.lit) f3=0\/(bY (neg y.lit) f3=1/\oh es cl j)\/(bY (neg y.lit) f3=2/\¬oh es cl j):=λj y hj hy=>by
    rw [QX,if_neg λe=>by have:=wv hF hy hx e; omega];exact hK j y (by omega) hy
   -- yf answer is settled
   have fin:∀{w':World} {f':List (Int×Int)},((bY (neg x.lit) f'=1/\oh es cl i)\/(bY (neg x.lit) f'=2/\¬oh es cl i))->Mp w' r0 f'->(∀j y,j<i->es[j]?=some y->bY (neg y.lit) f'=0\/(bY (neg y.lit) f'=1/\oh es cl j)\/(bY (neg y.lit) f'=2/\¬oh es cl j))->
     (∀k,(∀j y,j<=i->es[j]?=some y->neg y.lit≠k)->bY k f'=bY k f3)->af (One r0) w w'->∃f',((bY (neg x.lit) f'=1/\oh es cl i)\/(bY (neg x.lit) f'=2/\¬oh es cl i))/\Mp w' r0 f'/\Kv es cl f' i/\Fr es f f' i/\af (One r0) w w':=by
    intro w' f' h1 h2 h3 h4 h5;refine ⟨f',h1,h2,λj y hj hy=>?_,λk hk=>?_,h5⟩
    ·by_cases DY:j=i
     ·subst DY;rw [hx] at hy; injection hy with hy; subst hy;exact Or.inr h1
     ·exact h3 j y (by omega) hy
    ·rw [h4 k hk,QX,if_neg λe=>hk i x (Nat.le_refl _) hx e.symm]
   -- yf keys of aiM entries are others
   have X0:∀{j:Nat} {y:En},j<i->es[j]?=some y->neg y.lit≠neg x.lit:=λhj hy e=>by have:=wv hF hy hx e; omega
   -- l is told to stay
   have J':∀{w':World} {g:List (Int×Int)},¬oh es cl i->Mp w' r0 g->(∀j y,j<i->es[j]?=some y->bY (neg y.lit) g=0\/(bY (neg y.lit) g=1/\oh es cl j)\/(bY (neg y.lit) g=2/\¬oh es cl j))->
     (∀k,(∀j y,j<=i->es[j]?=some y->neg y.lit≠k)->bY k g=bY k f3)->af (One r0) w w'->∀OJ,Mp OJ r0 (gV (neg x.lit) 2 g)->af (One r0) w' OJ->∃f',((bY (neg x.lit) f'=1/\oh es cl i)\/(bY (neg x.lit) f'=2/\¬oh es cl i))/\Mp OJ r0 f'/\Kv es cl f' i/\Fr es f f' i/\af (One r0) w OJ:=by
    intro w' g hc Tm h3 h4 h5 OJ akU k'';refine fin (Or.inr ⟨by rw [iy,if_pos rfl],hc⟩) akU (λj y hj hy=>?_) (λk hk=>?_) (h5.trans k'' λi _ h=>h)
    ·rw [iy,if_neg (X0 hj hy)]; exact h3 j y hj hy
    ·rw [iy,if_neg λe=>hk i x (Nat.le_refl _) hx e.symm]; exact h4 k hk
   by_cases Ir:x.rs=[]
   ·-- no reason
    have aaW:rn=0:=by rw [Ir] at XW; simpa using XW.symm
    have AW:¬oh es cl i:=λh=>by
     cases h with
     | mk jG bz _=>rw [hx] at jG; injection jG with jG; subst jG; exact bz Ir
    refine ⟨λ_ w'=>Mp w' r0 (gV (neg x.lit) 2 f3)/\af (One r0) w7 w',au (mU.cell 2) (aX (by simp [aaW]) (fH (hE7.kn.cell 0) (y8 wq Tryz.underlying3 Ip λw8 hM8 k8 _=>⟨hM8,k8⟩))),?_⟩;rintro ⟨⟩ w9 ⟨hM9,k9⟩;have JK:=dH mU Ip k9;refine au (JK.cell 2) (bX (λs w'=>s.1=0/\w'=w9) (λs _=>0) ⟨rfl,rfl⟩ ?_);rintro ⟨j',⟨⟩⟩ cK ⟨rfl,rfl⟩;refine aT (by simp [aaW]) (J' AW Ip (λj y hj hy=>?_) (λk _=>rfl) By _ hM9 k9);exact kv3 j y hj hy
   ·have hR:=hg.2.2.2 Ir;have aaW:0<rn:=by
     rw [<-XW]; exact List.length_pos_iff.2 Ir
    refine ⟨λ_ w'=>w'=w7,au (mU.cell 2) (aT (by simp; omega) rfl),?_⟩;rintro ⟨⟩ w9 rfl;refine au (mU.cell 2) (bX (λs w'=>∃(j:Nat) (g:List (Int×Int)),s.1=(j:Int)/\j<=rn/\Mp w' r0 g/\bY (neg x.lit) g=1/\
     (∀j y,j<i->es[j]?=some y->bY (neg y.lit) g=0\/(bY (neg y.lit) g=1/\oh es cl j)\/(bY (neg y.lit) g=2/\¬oh es cl j))/\(∀k,(∀j y,j<=i->es[j]?=some y->neg y.lit≠k)->bY k g=bY k f3)/\af (One r0) w9 w'/\
     (∀o∈x.rs.take j,o≠x.lit->∀(a:Nat) (y:En),es[a]?=some y->y.lit=neg o->0<y.dM->o∉cl->oh es cl a)) (λs _=>(rn - s.1).toNat)
     ⟨0,f3,rfl,Nat.zero_le _,Ip,by rw [QX,if_pos rfl],kv3,λk _=>rfl,af.refl _ _,by simp⟩ ?_)
    rintro ⟨j',⟨⟩⟩ cK ⟨j,g,rfl,hj,Oj,QY,Gh,mz,fD,fA⟩;simp only [];have afm:af (One r0) w cK:=By.trans fD λi _ h=>h;have CP:=hE7.EW Ip fD;refine aF (λaM=>?_) λbL=>?_
    ·have aM:j<rn:=by simpa using aM
     rw [aA j (by omega)];refine (wu hq7 Ip fD).ix aM λad o ho ha=>ah ha (ah ((dH mU Ip fD).cell 0) ?_);have Og:(o≠x.lit->∀(a:Nat) (y:En),es[a]?=some y->y.lit=neg o->0<y.dM->o∉cl->oh es cl a)->∀o∈x.rs.take (j+1),o≠x.lit->∀(a:Nat) (y:En),es[a]?=some y->y.lit=neg o->0<y.dM->o∉cl->oh es cl a:=λh o' DQ=>by
      rw [aB ho,List.mem_append,List.mem_singleton] at DQ;rcases DQ with DQ | rfl
      ·exact fA o' DQ
      ·exact h
     by_cases xH:o=x.lit
     ·have e0:(o != x.lit)=false:=by simp [xH]
      rw [e0];exact a_ rfl (a_ rfl (a_ rfl (a_ rfl (a_ rfl (a_ rfl (a_ rfl (a_ rfl (a_ rfl (aT rfl ⟨⟨j+1,g,rfl,aM,Oj,QY,Gh,mz,fD,Og λh=>absurd xH h⟩,by omega⟩)))))))))
     ·have e0:(o != x.lit)=true:=by simpa using xH
      rw [e0];have SP:=List.mem_of_getElem? ho;have pn:fl o=true:=List.all_eq_true.1 hR.1 o SP;obtain ⟨y,hym,iB⟩:=hR.2.2 o SP xH;obtain ⟨a,B6⟩:=List.mem_iff_getElem?.1 hym;have uQ:a<i:=by
       have:=(List.getElem?_eq_some_iff.1 B6).1;rw [List.length_take] at this; omega
      rw [List.getElem?_take,if_pos uQ] at B6;have dO:neg y.lit=o:=by rw [iB,neg_neg pn]
      have uniq:∀(a':Nat) (y':En),es[a']?=some y'->y'.lit=neg o->a'=a/\y'=y:=λa' y' h1 h2=>by
       have:a'=a:=CO hF pn h1 B6 (Or.inr h2) (Or.inr iB);subst this;rw [B6] at h1; injection h1 with h1;exact ⟨rfl,h1.symm⟩
      have yx:bY o fa=(a:Int)+1:=by rw [<-dO]; exact J_ hF hE.pm B6
      have ea:IntKind.wrap .i64 ((a:Int)+1 - 1)=(a:Int):=by rw [IntKind.wrap_i64]; omega
      refine aS rfl (au (CP.tr.cell 0) (aS rfl (fH (CP.jr.cell 0) (aS rfl (lC wq Tryz.underlying3 z3 CP.am (aS rfl ?_))))));rw [yx,ea];refine CP.rd.ix B6 λad ⟨_,_,_,_,c1,_⟩=>aS rfl (ah c1 ?_);by_cases fG:0<y.dM
      ·have e1:(cond true (decide (y.dM>0)) false)=true:=by rw [decide_eq_true fG]; rfl
       refine aS e1 (fH (CP.st.cell 0) (aS e1 (lC wq Tryz.underlying3 z3 CP.sm ?_)));by_cases iL:bY o fs=0
       ·have e2:(cond (cond true (decide (y.dM>0)) false) (bY o fs==0) false)=true:=by rw [e1,iL]; rfl
        have akV:=(hE.sp o).1 iL;refine aS e2 (cT (CP.fn.cell 0) (aS e2 (dP ?_)));have akW:Kv es cl g a:=λj' y' lW sk=>Gh j' y' (by omega) sk;have go:=ih a uQ y cK g B6 CP Oj akW;rw [dO] at go;refine az XV go λe dB ⟨v,he,b',g',hv,lP,aaX,ON,aaY,gF⟩=>⟨b',he.trans (congrArg Ending.returned hv),?_⟩
        have Iu:af (One r0) w dB:=afm.trans gF λi _ h=>h;have QZ:af (One r0) w9 dB:=fD.trans gF λi _ h=>h;have afn:bY (neg x.lit) g'=1:=by
         rw [aaY (neg x.lit) λj' y' lW sk=>X0 (by omega) sk]; exact QY
        have afo:∀j y,j<i->es[j]?=some y->bY (neg y.lit) g'=0\/(bY (neg y.lit) g'=1/\oh es cl j)\/(bY (neg y.lit) g'=2/\¬oh es cl j):=λj' y' lW sk=>by
         by_cases hle:j'<=a
         ·exact ON j' y' hle sk
         ·rw [aaY (neg y'.lit) λj2 y2 SQ hy2 e=>by have:=wv hF hy2 sk e; omega];exact Gh j' y' lW sk
        have afp:∀k,(∀j y,j<=i->es[j]?=some y->neg y.lit≠k)->bY k g'=bY k f3:=λk hk=>by
         rw [aaY k λj2 y2 SQ hy2=>hk j2 y2 (by omega) hy2]; exact mz k hk
        cases b' with
        | true=>
         refine aT (by rw [e2]; rfl) ⟨⟨j+1,g',rfl,aM,aaX,afn,afo,afp,QZ,Og λ_ a' y' h1 h2 _ _=>?_⟩,by omega⟩;rw [(uniq a' y' h1 h2).1];exact lP.1 rfl
        | false=>
         have AW:¬oh es cl i:=λh=>by
          cases h with
          | mk jG bz h=>
           rw [hx] at jG; injection jG with jG; subst jG;have:=lP.2 (h o SP xH a y B6 iB fG akV);cases this
         have akX:=CP.EW Oj gF;exact aX (by rw [e2]; rfl) (fH (akX.kn.cell 0) (y8 wq Tryz.underlying3 aaX λdF akY fF _=>J' AW aaX afo afp Iu dF akY fF))
       ·have e2:(cond (cond true (decide (y.dM>0)) false) (bY o fs==0) false)=false:=by rw [e1]; simpa using iL
        refine a_ e2 (a_ e2 (aT (by rw [e2]; rfl) ⟨⟨j+1,g,rfl,aM,Oj,QY,Gh,mz,fD,Og λ_ a' y' h1 h2 _ h4=>absurd ((hE.sp o).2 h4) iL⟩,by omega⟩))
      ·have e1:(cond true (decide (y.dM>0)) false)=false:=by rw [decide_eq_false fG]; rfl
       have e2:∀z:Bool,(cond (cond true (decide (y.dM>0)) false) z false)=false:=λz=>by rw [e1]; rfl
       refine a_ e1 (a_ e1 (a_ (e2 _) (a_ (e2 _) (aT (by rw [e2]; rfl) ⟨⟨j+1,g,rfl,aM,Oj,QY,Gh,mz,fD,Og λ_ a' y' h1 h2 h3 _=>?_⟩,by omega⟩))));rw [(uniq a' y' h1 h2).2] at h3;exact absurd h3 fG
    ·have bL:j=rn:=by simp at bL; omega
     subst bL;rw [<-XW,List.take_length] at fA;exact fin (Or.inl ⟨QY,oh.mk hx Ir fA⟩) Oj Gh mz afm
  ·have h0:¬bY (neg x.lit) f=0:=by simpa using h0
   exact ⟨f,(hK i x (Nat.le_refl _) hx).resolve_left h0,hM,hK,λk _=>rfl,af.refl _ _⟩
 ·rintro ⟨⟩ w1 ⟨f',hd,Tm,ON,hFr,k1⟩;have hE1:=hE.EW hM k1;refine fH (hE1.kn.cell 0) (lC wq Tryz.underlying3 z3 Tm ⟨_,f',rfl,?_,Tm,ON,hFr,k1⟩);rcases hd with ⟨e,hc⟩ | ⟨e,hc⟩
  ·rw [e]; exact ⟨λ_=>hc,λ_=>rfl⟩
  ·rw [e]; exact ⟨λh=>absurd h (by decide),λh=>absurd h hc⟩
end
end bU
namespace bU
open Go Vc T
open bt (cQ aL aA bg aO copy same aB Sl sv AG)
section
variable {w:World} {e:TypeId} {p:Option Addr} {n c i:Nat} {xs:List Value}
theorem Vm {t:TypeId} {B m:Nat} {z v:Value} {K:Option Addr->Nat->Nat->World->Prop} (ht:Tryz.prog.underlying t=some (.slice e)) (Ax:(Tryz.prog.info? e).map (λi=>(i.zero,i.size,i.bytes))=some (some z,1,B)) (hz:z.cells.size=1) (hB:B<=64)
  (hv:v.oneCell'=true) (h:bR w e 1 p m c xs) (hm:m<1099511627776)
  (hk:∀p' c' w',bR w' e 1 p' (m+1) c' (xs++[v])->af (ob p) w w'->(∀i,ob p' i->ob p i\/w.heap.size<=i)->K p' (m+1) c' w') :
  cg w [v] e λb w7=>∃(p':Option Addr) (n' c':Nat),∃w':World,(Builtin.append_ #[t,t] t #[.slice p m c,.slice (some ⟨b,0,none⟩) 1 1]).run Tryz.prog w7=.ok (.slice p' n' c') w'/\K p' n' c' w':=by
 refine aD λb w7 hb7 h7 k7=>?_;have z7:=k7.size;refine fI (e:=e) (sz:=1) (z:=z) (B:=B) ht Ax hz (by omega) (h.aa k7) h7.kU (λu hu=>?_) (by simp only [maxLen]; omega) ?_ λp' c' w' pT hd=>?_
 ·simp only [List.mem_singleton] at hu; subst hu; exact hv
 ·have:(m+1)*B<=1099511627776*64:=Nat.mul_le_mul (by omega) hB;omega
 ·rcases hd with ⟨e1,e2,_,k⟩ | ⟨e1,k⟩
  ·exact hk p' c' w' pT ((k7.none).trans k λ_ _ h=>h) λi hi=>Or.inl (by rw [<-e1]; exact hi)
  ·exact hk p' c' w' pT ((k7.none).trans k.none λ_ _ h=>h) λi hi=>Or.inr (by have:=e1 i hi; omega)
end
theorem afq:(Tryz.prog.info? 3).map (λi=>(i.zero,i.size,i.bytes))=some (some (I 0),1,8):=by kernel_rfl
def AX (es:List En) (cs:List Int):Prop:=∀l∈cs,∃y∈es,y.lit=neg l
def qM (es:List En) (cs:List Int) (v:Int):Prop:=
 (v=1/\¬(Fm es/\cs.all fl=true))\/(v=2/\¬AX es cs/\Fm es/\cs.all fl=true)\/(v=0/\AX es cs/\Fm es/\cs.all fl=true)
theorem qM.unique {es:List En} {cs:List Int} {v u:Int} (h:qM es cs v) (h':qM es cs u):v=u:=by
 rcases h with ⟨rfl,a⟩ | ⟨rfl,a,b⟩ | ⟨rfl,a,b⟩<;>rcases h' with ⟨rfl,a'⟩ | ⟨rfl,a',b'⟩ | ⟨rfl,a',b'⟩
 ·rfl
 ·exact absurd b' a
 ·exact absurd b' a
 ·exact absurd b a'
 ·rfl
 ·exact absurd a' a
 ·exact absurd b a'
 ·exact absurd a a'
 ·rfl
section
variable {w w':World} {p q:Option Addr} {n m c d:Nat} {es:List En} {cs:List Int}
theorem Ka (hE:mF w p n es) (hn:n<=1048576) (hr:∀x∈es,x.rs.length<=1048576) (hC:cQ w q m cs) (hm:m<=1048576) {r:Nat} {fa:List (Int×Int)} (hM:Mp w r fa) (hP:Pm fa es) :
  Calls Tryz.prog 175 #[.slice p n c,.slice q m d,.map (some r)] w λe w'=>∃v,e=.returned (I v)/\qM es cs v/\af aq w w':=by
 refine (Ie p n c q m d (some r) w (λv w'=>∃u,v=I u/\qM es cs u/\af aq w w') ?_).mono λe w' ⟨v,he,u,hv,hk⟩=>⟨u,by rw [he,hv],hk⟩
 unfold ae4;have g_:=hC.len;refine az ae0 (QW hE (by omega) (λx hx=>by have:=hr x hx; omega)) λe w1 ⟨b,he,hb,k1⟩=>⟨b,he,?_⟩
 cases b with
 | false=>exact a_ rfl (aX rfl ⟨1,rfl,Or.inl ⟨rfl,λh=>by have:=hb.2 h.1; cases this⟩,k1⟩)
 | true=>
  have hF:=hb.1 rfl;refine aS rfl (az LC (J7 (hC.aa k1) (by omega)) λe w2 ⟨he,k2⟩=>⟨_,he,?_⟩);have uP:=k1.ak k2;cases hs:cs.all fl with
  | false=>exact aX rfl ⟨1,rfl,Or.inl ⟨rfl,λh=>by have:=h.2; rw [hs] at this; cases this⟩,uP⟩
  | true=>
   refine aT rfl (bX (λs w'=>∃i:Nat,s.1=(i:Int)/\i<=m/\af aq w w'/\AX es (cs.take i)) (λs _=>(m - s.1).toNat) ⟨0,rfl,Nat.zero_le _,uP,λl hl=>by cases hl⟩ ?_);rintro ⟨i',⟨⟩⟩ w3 ⟨i,rfl,hi,k3,hfa⟩;simp only [];refine aF (λaM=>?_) λbL=>?_
   ·have aM:i<m:=by simpa using aM
    rw [aA i (by omega)];refine (hC.aa k3).ix aM λa l hl ha=>ah ha (lC wq Tryz.underlying3 z3 (hM.aa k3) ?_);have kI:fl l=true:=List.all_eq_true.1 hs l (List.mem_of_getElem? hl);rcases hP l with ⟨e,dO⟩ | ⟨k,x,e,hx,D8⟩
    ·rw [e];refine aX rfl ⟨2,rfl,Or.inr (Or.inl ⟨rfl,λh=>?_,hF,hs⟩),k3⟩;obtain ⟨y,hy,iB⟩:=h l (List.mem_of_getElem? hl);exact dO y hy (by rw [iB,neg_neg kI])
    ·rw [e];refine aT (by simp; omega) ⟨⟨i+1,rfl,aM,k3,λl' jh=>?_⟩,by omega⟩;rw [aB hl,List.mem_append,List.mem_singleton] at jh;rcases jh with jh | rfl
     ·exact hfa l' jh
     ·exact ⟨x,List.mem_of_getElem? hx,by rw [<-D8,neg_neg (hF k x hx).1]⟩
   ·have bL:i=m:=by simp at bL; omega
    subst bL;rw [<-g_,List.take_length] at hfa;exact ⟨0,rfl,Or.inr (Or.inr ⟨rfl,hfa,hF,hs⟩),k3⟩
end
end bU
namespace bU
open Go Vc T
open bt (cQ aL aA bg aO copy same aB Sl sv AG)
theorem nC (p:Option Addr) (c sz:Nat):jZ p c 0 sz=p:=by
 unfold jZ;split
 ·rfl
 ·cases p with
  | none=>rfl
  | some a=>simp [Addr.add]
def Kp (es:List En) (cl:List Int) (i:Nat) (l:Int):Prop:=l∉cl.take i/\(i=0\/∃(a:Nat) (y:En),es[a]?=some y/\y.lit=neg l/\0<y.dM/\¬oh es cl a)
open Classical in
noncomputable def shr (es:List En) (cl:List Int):Nat->List Int
 | 0=>[]
 | i+1=>shr es cl i++(if Kp es cl i (cl.getD i 0) then [cl.getD i 0] else [])
theorem CQ {es:List En} {cl:List Int} {i:Nat} {l:Int} (hl:cl[i]?=some l) (h:Kp es cl i l):shr es cl (i+1)=shr es cl i++[l]:=by
 have e:cl.getD i 0=l:=by rw [List.getD_eq_getElem?_getD,hl]; rfl
 rw [shr,e,if_pos h]
theorem Ix {es:List En} {cl:List Int} {i:Nat} {l:Int} (hl:cl[i]?=some l) (h:¬Kp es cl i l):shr es cl (i+1)=shr es cl i:=by
 have e:cl.getD i 0=l:=by rw [List.getD_eq_getElem?_getD,hl]; rfl
 rw [shr,e,if_neg h,List.append_nil]
theorem Kc (es:List En) (cl:List Int):∀i,(shr es cl i).length<=i:=by
 intro i;induction i with
 | zero=>exact Nat.le_refl _
 | succ i ih=>
  rw [shr,List.length_append];split
  ·simp; omega
  ·simp; omega
def qN (es:List En) (cs:List Int) (w:World) (v:Value) (w':World):Prop:=∃(u:Int) (q:Option Addr) (qn qc:Nat) (L:List Int),v=.tuple #[.slice q qn qc,I u]/\qM es cs u/\bR w' 3 1 q qn qc (L.map I)/\(∀j,ob q j->w.heap.size<=j)/\(u=0->L=shr es cs cs.length)/\(u≠0->L=[])/\af aq w w'
theorem Q0 {es:List En} {cl:List Int} (hF:Fm es) {i:Nat} {l:Int} (kI:fl l=true) {a:Nat} {y:En} (hy:es[a]?=some y) (iB:y.lit=neg l) (hi:i≠0) (dO:l∉cl.take i):Kp es cl i l↔0<y.dM/\¬oh es cl a:=by
 constructor
 ·rintro ⟨_,h⟩;rcases h with h | ⟨a',y',h1,h2,h3,h4⟩
  ·exact absurd h hi
  ·have e:=CO hF kI h1 hy (Or.inr h2) (Or.inr iB);subst e;rw [hy] at h1; injection h1 with h1;subst h1;exact ⟨h3,h4⟩
 ·exact λh=>⟨dO,Or.inr ⟨a,y,hy,iB,h.1,h.2⟩⟩
section
variable {w w':World} {p q:Option Addr} {n m c d:Nat} {es:List En} {cs:List Int}
end
end bU
namespace bU
open Go Vc T
open bt (cQ aL aA bg aO copy same aB Sl sv AG)
section
variable {w w1 w2:World} {es:List En} {cl:List Int} {b0 b1 b2 b3 b4 r0 r1 r3 N:Nat} {p:Option Addr} {n c:Nat} {fa fs fs2 f:List (Int×Int)} {S:Nat->Prop}
theorem Ev.Bw (h:Ev w1 es cl b0 b1 b2 b3 b4 r0 r1 r3 p n c fa fs) (hk:af S w1 w2) (hS:∀i,S i->N<=i) (hN:b0<N/\b1<N/\b2<N/\b3<N/\b4<N/\r1<N/\r3<N) (N4:mF w2 p n es):Ev w2 es cl b0 b1 b2 b3 b4 r0 r1 r3 p n c fa fs:=by
 have no:∀{i},i<N->¬S i:=λh1 h2=>by have:=hS _ h2; omega
 exact ⟨h.kn.ax hk (no hN.1),h.tr.ax hk (no hN.2.1),h.jr.ax hk (no hN.2.2.1),h.st.ax hk (no hN.2.2.2.1),h.fn.ax hk (no hN.2.2.2.2.1),N4,h.am.ax hk (no hN.2.2.2.2.2.1),h.sm.ax hk (no hN.2.2.2.2.2.2),h.d1,h.d3,h.pm,h.sp⟩
theorem zz3:(Tryz.prog.info? 3).map (·.zero)=some (some (.int .i64 0)):=z3
theorem Ev.put (h:Ev w1 es cl b0 b1 b2 b3 b4 r0 r1 r3 p n c fa fs) (hM:Mp w1 r0 f) (k:af (One r3) w1 w2) (To:Mp w2 r3 fs2) (Q1:r1≠r3) (F3:∀o,bY o fs2=0↔o∉cl):Ev w2 es cl b0 b1 b2 b3 b4 r0 r1 r3 p n c fa fs2/\Mp w2 r0 f:=
 ⟨⟨dH h.kn h.sm k,dH h.tr h.sm k,dH h.jr h.sm k,dH h.st h.sm k,dH h.fn h.sm k,Bz h.rd h.sm k,h.am.ax k Q1,To,h.d1,h.d3,h.pm,F3⟩,hM.ax k λe=>h.d3 (Eq.symm e)⟩
end
def Sp (cs:List Int) (fs:List (Int×Int)) (i:Nat):Prop:=∀o,(bY o fs=2/\o∈cs.take i)\/(bY o fs=1/\o∈cs/\o∉cs.take i)\/(bY o fs=0/\o∉cs)
theorem Q2 {cs:List Int} {i:Nat} {o:Int} (h:o∈cs.take i):o∈cs:=(List.take_sublist i cs).subset h
theorem Sp.zero {cs:List Int} {fs:List (Int×Int)} {i:Nat} (h:Sp cs fs i) (o:Int):bY o fs=0↔o∉cs:=by
 rcases h o with ⟨e,hm⟩ | ⟨e,hm,_⟩ | ⟨e,hm⟩
 ·rw [e]; exact ⟨λh=>absurd h (by decide),λh=>absurd (Q2 hm) h⟩
 ·rw [e]; exact ⟨λh=>absurd h (by decide),λh=>absurd hm h⟩
 ·rw [e]; exact ⟨λ_=>hm,λ_=>rfl⟩
theorem Sp.next {cs:List Int} {fs:List (Int×Int)} {i:Nat} {l:Int} (h:Sp cs fs i) (hl:cs[i]?=some l):Sp cs (gV l 2 fs) (i+1):=λo=>by
 rw [iy,aB hl];by_cases ho:o=l
 ·rw [if_pos ho]; exact Or.inl ⟨rfl,by simp [ho]⟩
 ·rw [if_neg ho];rcases h o with ⟨e,hm⟩ | ⟨e,hm,hn⟩ | ⟨e,hm⟩
  ·exact Or.inl ⟨e,by simp [hm]⟩
  ·exact Or.inr (Or.inl ⟨e,hm,by simp [hn,ho]⟩)
  ·exact Or.inr (Or.inr ⟨e,hm⟩)
theorem Sp.skip {cs:List Int} {fs:List (Int×Int)} {i:Nat} {l:Int} (h:Sp cs fs i) (hl:cs[i]?=some l) (nB:l∈cs.take i):Sp cs fs (i+1):=λo=>by
 rw [aB hl];rcases h o with ⟨e,hm⟩ | ⟨e,hm,hn⟩ | ⟨e,hm⟩
 ·exact Or.inl ⟨e,by simp [hm]⟩
 ·refine Or.inr (Or.inl ⟨e,hm,?_⟩);rw [List.mem_append,List.mem_singleton];rintro (h | rfl)
  ·exact hn h
  ·exact hn nB
 ·exact Or.inr (Or.inr ⟨e,hm⟩)
section
variable {w w':World} {p q:Option Addr} {n m c d:Nat} {es:List En} {cs:List Int}
theorem Q3 (hE:mF w p n es) (hn:n<=1048576) (hr:∀x∈es,x.rs.length<=1048576) (hC:cQ w q m cs) (hm:m<=1048576) :
  Calls Tryz.prog 141 #[.slice p n c,.slice q m d] w λe w'=>∃v,e=.returned v/\qN es cs w v w':=by
 refine Ij p n c q m d w (qN es cs w) ?_;unfold afb;have g_:=hC.len;have hl:=hE.len;refine aD λbT w1 hbT hT k1=>?_;simp only [ag,Nat.add_zero,Nat.zero_add];refine au (hT.cell 0) (az XR (EV (hE.aa k1) (by omega)) λe w2 ⟨r1,fa,he,Ol,hM1,hP,k2⟩=>⟨_,he,?_⟩);have uP:=k1.ak k2;have z1:=k1.size;have z2:=k2.size;have lr1:=hM1.lt;have lT:=hT.lt;refine aD λbA w3 hbA hA k3=>?_;have lA:=hA.lt;have z3:=k3.size;refine aG hA (by simp) rfl λw4 hA4 k4 _=>?_;have oA:af aq w2 w4:=k3.bw k4 (by omega);simp only [List.set_cons_zero] at hA4;have uX:=uP.ak oA;have S0:=(hT.aa k2).aa oA;have aaZ:=hM1.aa oA;refine au (S0.cell 0) (fH (hA4.cell 0) (az XS (Ka (hE.aa uX) hn hr (hC.aa uX) hm aaZ hP) λe w5 ⟨u,he,hu,k5⟩=>⟨u,he,?_⟩));have wz:=uX.ak k5;by_cases hu0:u≠0
 ·exact aX (by simpa using hu0) ⟨u,none,0,0,[],rfl,hu,bR.nil _ _ _,(λj ⟨a,hh,_⟩=>by cases hh),λh=>absurd h hu0,λ_=>rfl,wz⟩
 obtain rfl:u=0:=Classical.byContradiction hu0;obtain ⟨hFa,hF,hs⟩:AX es cs/\Fm es/\cs.all fl=true:=by
  rcases hu with ⟨h,_⟩ | ⟨h,_⟩ | ⟨_,h⟩
  ·cases h
  ·cases h
  ·exact h
 refine aT rfl (uB λr3 w6 hr3 hM3 k6=>aD λbS w7 hbS hS7 k7=>?_);have lr3:=hM3.lt;have lS:=hS7.lt;have z4:=oA.size;have z5:=k5.size;have z6:=k6.size;have z7:=k7.size;refine aG hS7 (by simp) rfl λw8 hS8 k8 sz8=>?_;simp only [List.set_cons_zero] at hS8;have Oe:af aq w5 w8:=(k6.ak k7).bw k8 (by omega);have k08:=wz.ak Oe;have Q4:=(hM3.aa k7).ax k8 (show r3≠bS by omega);have hT8:=(S0.aa k5).aa Oe;have hA8:=(hA4.aa k5).aa Oe;have afr:=(aaZ.aa k5).aa Oe;refine bX (λs w'=>∃(i:Nat) (fs:List (Int×Int)),s.1=(i:Int)/\i<=m/\af (One r3) w8 w'/\Mp w' r3 fs/\∀o,(bY o fs=1/\o∈cs.take i)\/(bY o fs=0/\o∉cs.take i)) (λs _=>(m - s.1).toNat)
  ⟨0,[],rfl,Nat.zero_le _,af.refl _ _,Q4,λo=>Or.inr ⟨rfl,by simp⟩⟩ ?_
 rintro ⟨i',⟨⟩⟩ w9 ⟨i,fs,rfl,hi,k9,aa0,hfs⟩;simp only [];have z9:=k9.size;have k09:af aq w w9:=k08.trans k9 λj hj hh=>by have:j=r3:=hh; omega
 have hT9:=dH hT8 Q4 k9;have hA9:=dH hA8 Q4 k9;have hS9:=dH hS8 Q4 k9;have afs:=afr.ax k9 (show r1≠r3 by omega);refine aF (λaM=>?_) λbL=>?_
 ·have aM:i<m:=by simpa using aM
  rw [aA i (by omega)];refine (hC.aa k09).ix aM λa l uc ha=>ah ha (fH (hS9.cell 0) (y8 wq Tryz.underlying3 aa0 λcK akZ fD _=>⟨⟨i+1,_,rfl,aM,k9.trans fD λj _ h=>h,akZ,λo=>?_⟩,by omega⟩));rw [iy,aB uc];by_cases ho:o=l
  ·rw [if_pos ho]; exact Or.inl ⟨rfl,by simp [ho]⟩
  ·rw [if_neg ho];rcases hfs o with ⟨e,WU⟩ | ⟨e,Va⟩
   ·exact Or.inl ⟨e,by simp [WU]⟩
   ·exact Or.inr ⟨e,by simp [Va,ho]⟩
 have bL:i=m:=by simp at bL; omega
 subst bL;have hta:cs.take i=cs:=by rw [<-g_,List.take_length]
 rw [hta] at hfs;have F3:Sp cs fs 0:=λo=>by
  rcases hfs o with ⟨e,WU⟩ | ⟨e,Va⟩
  ·exact Or.inr (Or.inl ⟨e,WU,by simp⟩)
  ·exact Or.inr (Or.inr ⟨e,Va⟩)
 refine uB λr0 cK hr0 hM0 fD=>aD λbK dB hbK aa1 gF=>?_;have lr0:=hM0.lt;have lK:=aa1.lt;have z10:=fD.size;have z11:=gF.size;refine aG aa1 (by simp) rfl λdF aa2 fF aoE=>aD λbF eA hbF aa3 gQ=>?_;simp only [List.set_cons_zero] at aa2;have lF:=aa3.lt;have z13:=gQ.size;refine aG aa3 (by simp) rfl λeG aa4 lq aoF=>?_;simp only [List.set_cons_zero] at aa4;have ak0:af aq w9 dF:=(fD.ak gF).bw fF (by omega);have MI:af aq w9 eG:=(ak0.ak gQ).bw lq (by omega);have aa5:=k09.ak MI;have X2:Mp eG r0 []:=(((hM0.aa gF).ax fF (show r0≠bK by omega)).aa gQ).ax lq (show r0≠bF by omega);have hEv:Ev eG es cs bK bT bA bS bF r0 r1 r3 p n c fa fs:=
  ⟨(aa2.aa gQ).ax lq (show bK≠bF by omega),hT9.aa MI,hA9.aa MI,hS9.aa MI,aa4,hE.aa aa5,afs.aa MI,aa0.aa MI,by omega,by omega,hP,F3.zero⟩
 have hN:bK<eG.heap.size/\bT<eG.heap.size/\bA<eG.heap.size/\bS<eG.heap.size/\bF<eG.heap.size/\r1<eG.heap.size/\r3<eG.heap.size:=by omega
 have ak1:r0<eG.heap.size:=X2.lt;have Q1:r1≠r3:=by omega
 have aoG:w.heap.size<=r0:=by omega
 have aoH:w.heap.size<=r3:=by omega
 clear aa1 aa2 aa3 aa4 hT9 hA9 hS9 afs aa0 hT8 hA8 afr Q4 hS8 hS7 hM3 S0 hA4 aaZ hA hM1 hT hM0;obtain ⟨N,hNN⟩:∃N,N=eG.heap.size:=⟨_,rfl⟩
 rw [<-hNN] at hN ak1;have hwN:w.heap.size<=N:=by have:=aa5.size; omega
 let Iv:Nat->(Option Addr×Nat×Nat)->World->Prop:=λk s w'=>∃f fs,af aq w w'/\N<=w'.heap.size/\Ev w' es cs bK bT bA bS bF r0 r1 r3 p n c fa fs/\Mp w' r0 f/\Kv es cs f n/\Sp cs fs k/\s.2.1=(shr es cs k).length/\bR w' 3 1 s.1 (shr es cs k).length s.2.2 ((shr es cs k).map I)/\∀j,ob s.1 j->N<=j;refine bX (λs w'=>∃k:Nat,s.2.1=(k:Int)/\k<=i/\Iv k s.1 w') (λs _=>(i - s.2.1).toNat)
  ⟨0,rfl,Nat.zero_le _,[],fs,aa5,by omega,hEv,X2,λj y _ _=>Or.inl rfl,F3,rfl,bR.nil _ _ _,λj ⟨a,hh,_⟩=>by cases hh⟩ ?_
 rintro ⟨⟨g,gn,gc⟩,k',⟨⟩⟩ gT ⟨k,rfl,hk,f,fs,AM,Q5,xW,Q6,Q7,hSp,hgn,hO,wA⟩;simp only [] at hgn hO wA ⊢;subst hgn;have akz:=Kc es cs k;refine aF (λaM=>?_) λbL=>?_
 ·have aM:k<i:=by simpa using aM
  rw [aA k (by omega)];obtain ⟨l,uc⟩:=bg (show k<cs.length by omega);have X3:=List.mem_of_getElem? uc;have kI:fl l=true:=List.all_eq_true.1 hs l X3;obtain ⟨y,hym,iB⟩:=hFa l X3;obtain ⟨a,B6⟩:=List.mem_iff_getElem?.1 hym;have ha:=(List.getElem?_eq_some_iff.1 B6).1;have Q8:neg y.lit=l:=by rw [iB,neg_neg kI]
  refine ⟨λt w'=>Iv (k+1) t.1 w',?_,λt w4 h4=>⟨⟨k+1,rfl,aM,h4⟩,by omega⟩⟩;refine (hC.aa AM).ix aM λad l' jh had=>ah had (fH (xW.st.cell 0) (lC wq Tryz.underlying3 zz3 xW.sm ?_));rw [uc] at jh;injection jh with jh;subst jh;by_cases nB:l∈cs.take k
  ·have e2:bY l fs=2:=by
    rcases hSp l with ⟨e,_⟩ | ⟨_,_,h⟩ | ⟨_,h⟩
    ·exact e
    ·exact absurd nB h
    ·exact absurd X3 h
   refine aX (by rw [e2]; rfl) ?_;show Iv (k+1) (g,(shr es cs k).length,gc) gT;refine ⟨f,fs,AM,Q5,xW,Q6,Q7,hSp.skip uc nB,?_⟩;rw [Ix uc λh=>h.1 nB];exact ⟨rfl,hO,wA⟩
  ·have e1:bY l fs=1:=by
    rcases hSp l with ⟨_,h⟩ | ⟨e,_⟩ | ⟨_,h⟩
    ·exact absurd h nB
    ·exact e
    ·exact absurd X3 h
   refine aT (by rw [e1]; rfl) ?_;refine ⟨λt w'=>∃f,af aq w w'/\N<=w'.heap.size/\Ev w' es cs bK bT bA bS bF r0 r1 r3 p n c fa fs/\Mp w' r0 f/\Kv es cs f n/\t.1.2.1=(shr es cs (k+1)).length/\bR w' 3 1 t.1.1 (shr es cs (k+1)).length t.1.2.2 ((shr es cs (k+1)).map I)/\∀j,ob t.1.1 j->N<=j,?_,?_⟩
   ·-- aiN it stays
    have stay:∀{eM:World} {f':List (Int×Int)},Kp es cs k l->af aq w eM->N<=eM.heap.size->Ev eM es cs bK bT bA bS bF r0 r1 r3 p n c fa fs->Mp eM r0 f'->Kv es cs f' n->bR eM 3 1 g (shr es cs k).length gc ((shr es cs k).map I)->
      cg eM [.int .i64 l] 3 λb78 Ep=>∃(EF:Option Addr) (AN AO:Nat),∃xg:World,(Builtin.append_ #[59,59] 59 #[.slice g (shr es cs k).length gc,.slice (some (⟨b78,0,none⟩:Addr)) 1 1]).run Tryz.prog Ep=.ok (.slice EF AN AO) xg/\
      (∃f,af aq w xg/\N<=xg.heap.size/\Ev xg es cs bK bT bA bS bF r0 r1 r3 p n c fa fs/\Mp xg r0 f/\Kv es cs f n/\AN=(shr es cs (k+1)).length/\bR xg 3 1 EF (shr es cs (k+1)).length AO ((shr es cs (k+1)).map I)/\∀j,ob EF j->N<=j):=by
     intro eM f' X4 sJ MJ AY EX Iy CR;refine Vm (t:=59) (B:=8) Tryz.underlying59 afq rfl (by omega) rfl CR (by omega) λp' c' fe aa6 kz aft=>?_;have afu:af aq w fe:=sJ.trans kz λj hj hh=>by have:=wA j hh; omega
     have z17:=kz.size;rw [CQ uc X4,List.length_append,List.map_append];refine ⟨f',afu,by omega,AY.Bw kz wA hN (hE.aa afu),EX.ax kz λhh=>by have:=wA r0 hh; omega,Iy,rfl,aa6,λj hj=>?_⟩;rcases aft j hj with h | h
     ·exact wA j h
     ·omega
    have leave:∀{eM:World} {f':List (Int×Int)},¬Kp es cs k l->af aq w eM->N<=eM.heap.size->Ev eM es cs bK bT bA bS bF r0 r1 r3 p n c fa fs->Mp eM r0 f'->Kv es cs f' n->bR eM 3 1 g (shr es cs k).length gc ((shr es cs k).map I)->
      (∃f,af aq w eM/\N<=eM.heap.size/\Ev eM es cs bK bT bA bS bF r0 r1 r3 p n c fa fs/\Mp eM r0 f/\Kv es cs f n/\(shr es cs k).length=(shr es cs (k+1)).length/\bR eM 3 1 g (shr es cs (k+1)).length gc ((shr es cs (k+1)).map I)/\∀j,ob g j->N<=j):=by
     intro eM f' X4 sJ MJ AY EX Iy CR;rw [Ix uc X4];exact ⟨f',sJ,MJ,AY,EX,Iy,rfl,CR,wA⟩
    by_cases qD:k=0
    ·have e0:((k:Int)==0)=true:=by simp [qD]
     have e1:(!((k:Int)==0))=false:=by rw [e0]; rfl
     have e2:∀z:Bool,((!((k:Int)==0))&&z)=false:=λz=>by rw [e1]; rfl
     exact a_ e1 (a_ e1 (a_ e1 (a_ e1 (a_ e1 (a_ (e2 _) (a_ (e2 _) (aX (by rw [e0]; rfl) (stay ⟨nB,Or.inl qD⟩ AM Q5 xW Q6 Q7 hO))))))))
    ·have e0:((k:Int)==0)=false:=by simpa using qD
     have e1:(!((k:Int)==0))=true:=by rw [e0]; rfl
     have kpi:=Q0 (cl:=cs) hF kI B6 iB qD nB;have yx:bY l fa=(a:Int)+1:=by rw [<-Q8]; exact J_ hF hP B6
     have ea:IntKind.wrap .i64 ((a:Int)+1 - 1)=(a:Int):=by rw [IntKind.wrap_i64]; omega
     refine aS e1 (au (xW.tr.cell 0) (aS e1 (fH (xW.jr.cell 0) (aS e1 (lC wq Tryz.underlying3 zz3 xW.am (aS e1 ?_))))));rw [yx,ea];refine xW.rd.ix B6 λad ⟨_,_,_,_,c1,_⟩=>aS e1 (ah c1 ?_);by_cases fG:0<y.dM
     ·have e2:((!((k:Int)==0))&&decide (y.dM>0))=true:=by rw [e1,decide_eq_true fG]; rfl
      refine aS e2 (cT (xW.fn.cell 0) (aS e2 (dP ?_)));have go:=MH (b0:=bK) (b1:=bT) (b2:=bA) (b3:=bS) (b4:=bF) (r0:=r0) (r1:=r1) (r3:=r3) (p:=p) (n:=n) (c:=c) (fa:=fa) (fs:=fs) (cl:=cs) hF hn hr a y gT f B6 xW Q6 (λj y' hj sk=>Q7 j y' (by omega) sk);rw [Q8] at go;refine az XV go λe eM ⟨v,he,b',f',hv,lP,EX,Iy,hFr,sJ⟩=>⟨b',he.trans (congrArg Ending.returned hv),?_⟩
      have afv:af aq w eM:=AM.trans sJ λj hj hh=>by have:j=r0:=hh; omega
      have MJ:N<=eM.heap.size:=by have:=sJ.size; omega
      have AY:=xW.EW Q6 sJ;have CR:bR eM 3 1 g (shr es cs k).length gc ((shr es cs k).map I):=hO.ax sJ λj hj hh=>by have:=wA j hj; have:j=r0:=hh; omega
      have X5:Kv es cs f' n:=λj y' hj sk=>by
       by_cases hle:j<=a
       ·exact Iy j y' hle sk
       ·rw [hFr (neg y'.lit) λj2 y2 SQ hy2 e=>by have:=wv hF hy2 sk e; omega];exact Q7 j y' hj sk
      cases b' with
      | true=>exact aT (by rw [e0,decide_eq_true fG]; rfl) (leave (λh=>(kpi.1 h).2 (lP.1 rfl)) afv MJ AY EX X5 CR)
      | false=>exact aX (by rw [e0,decide_eq_true fG]; rfl) (stay (kpi.2 ⟨fG,λh=>by have:=lP.2 h; cases this⟩) afv MJ AY EX X5 CR)
     ·have e2:((!((k:Int)==0))&&decide (y.dM>0))=false:=by rw [decide_eq_false fG]; simp
      exact a_ e2 (a_ e2 (aT (by rw [e0,decide_eq_false fG]; rfl) (leave (λh=>fG (kpi.1 h).1) AM Q5 xW Q6 Q7 hO)))
   ·rintro ⟨⟨t,tn,tc⟩,⟨⟩⟩ eM ⟨f',sJ,MJ,AY,EX,Iy,htn,CR,Q9⟩;simp only [] at htn CR Q9 ⊢;refine fH (AY.st.cell 0) (y8 wq Tryz.underlying3 AY.sm λfe ak2 kz _=>?_);obtain ⟨ak3,afw⟩:=AY.put EX kz ak2 Q1 (hSp.next uc).zero;have z17:=kz.size;refine ⟨f',_,sJ.trans kz λj hj hh=>by have:j=r3:=hh; omega,by omega,ak3,afw,Iy,hSp.next uc,htn,CR.ax kz λj hj hh=>?_,Q9⟩;have:=Q9 j hj;have:j=r3:=hh;omega
 ·have bL:k=i:=by simp at bL; omega
  subst bL;exact ⟨0,g,_,gc,_,rfl,hu,hO,λj hj=>by have:=wA j hj; omega,λ_=>by rw [g_],λh=>absurd rfl h,AM⟩
end
end bU
namespace bU
open Go Vc T
open bt (cQ aL aA bg aO copy same aB Sl sv)
open dw (Td sY)
def lvl (es:List En) (l:Int):Int:=match es.find? (λx=>decide (x.lit=neg l)) with | some x=>x.dM | none=>0
section
variable {es:List En}
theorem rM (hF:Fm es) {i j:Nat} {x y:En} (hx:es[i]?=some x) (hy:es[j]?=some y) (h:x.lit=y.lit):i=j:=
 wv hF hx hy (by rw [h])
theorem fS (hF:Fm es) {i:Nat} {x:En} {l:Int} (hx:es[i]?=some x) (hl:x.lit=neg l):lvl es l=x.dM:=by
 unfold lvl;cases hf:es.find? (λx=>decide (x.lit=neg l)) with
 | none=>exact absurd (by simpa using hl) (List.find?_eq_none.1 hf x (List.mem_of_getElem? hx))
 | some y=>
  have hp:=List.find?_some hf;obtain ⟨j,hj⟩:=List.mem_iff_getElem?.1 (List.mem_of_find?_eq_some hf);have hp:y.lit=neg l:=by simpa using hp
  obtain rfl:=rM hF hx hj (hl.trans hp.symm);rw [hx] at hj; injection hj with hj; rw [hj]
theorem EY {l:Int} (h:∀y∈es,y.lit≠neg l):lvl es l=0:=by
 unfold lvl;rw [List.find?_eq_none.2 λy hy=>by simpa using h y hy]
theorem oG (hF:Fm es) (hn:es.length<=1048576):∀(i:Nat) (x:En),es[i]?=some x->0<=x.dM/\x.dM<=(i:Int)+1/\∀(j:Nat) (y:En),j<=i->es[j]?=some y->y.dM<=x.dM:=by
 intro i;induction i with
 | zero=>
  intro x hx;have h:=(hF 0 x hx).2.2.1.1;have e:eO (es.take 0)=0:=rfl;rw [e] at h;have e2:IntKind.wrap .i64 (0+1)=1:=by decide +kernel
  rw [e2] at h;refine ⟨by omega,by omega,λj y hj hy=>?_⟩;obtain rfl:j=0:=by omega
  rw [hx] at hy; injection hy with hy; rw [hy]; exact Int.le_refl _
 | succ i ih=>
  intro x hx;have hi:=(List.getElem?_eq_some_iff.1 hx).1;obtain ⟨z,hz⟩:=bg (show i<es.length by omega);obtain ⟨h0,h1,h2⟩:=ih z hz;have h:=(hF (i+1) x hx).2.2.1.1;rw [oE hz] at h;have e2:IntKind.wrap .i64 (z.dM+1)=z.dM+1:=by rw [IntKind.wrap_i64]; omega
  rw [e2] at h;refine ⟨by omega,by omega,λj y hj hy=>?_⟩;rcases Nat.lt_or_ge j (i+1) with SQ | SQ
  ·have:=h2 j y (by omega) hy; omega
  ·obtain rfl:j=i+1:=by omega
   rw [hx] at hy; injection hy with hy; rw [hy]; exact Int.le_refl _
structure Gt (es:List En) (top:Int) (S:Int->Prop) (i:Nat) (x:En):Prop where
 jr:es[i]?=some x
 dM:x.dM=top
 mem:S (neg x.lit)
 last:∀(j:Nat) (y:En),i<j->es[j]?=some y->y.dM=top->¬S (neg y.lit)
def Og (S:Int->Prop) (x:En):Int->Prop:=λl=>(S l/\l≠neg x.lit)\/(l∈x.rs/\l≠x.lit)
def BA (es:List En) (top:Int) (S:Int->Prop) (x:En):Prop:=∀l,S l->lvl es l=top->l=neg x.lit
inductive Dr (es:List En) (top:Int):(Int->Prop)->Int->(Int->Prop)->Prop
 | done {S:Int->Prop} {i:Nat} {x:En} (h:Gt es top S i x) (ha:BA es top S x):Dr es top S (neg x.lit) S
 | step {S F:Int->Prop} {i:Nat} {x:En} {o:Int} (h:Gt es top S i x) (ha:¬BA es top S x) (hn:Dr es top (Og S x) o F):Dr es top S o F
theorem Gt.uniq {top:Int} {S:Int->Prop} {i j:Nat} {x y:En} (h:Gt es top S i x) (h':Gt es top S j y):x=y:=by
 have:i=j:=by
  rcases Nat.lt_trichotomy i j with hl | hl | hl
  ·exact absurd h'.mem (h.last j y hl h'.jr h'.dM)
  ·exact hl
  ·exact absurd h.mem (h'.last i x hl h.jr h.dM)
 subst this;have:=h.jr;rw [h'.jr] at this;injection this with this;exact this.symm
theorem Dr.uniq {top:Int} {S F F':Int->Prop} {o o':Int} (h:Dr es top S o F) (h':Dr es top S o' F'):o=o'/\F=F':=by
 induction h with
 | done h ha=>
  cases h' with
  | done h2 IA=>rw [h.uniq h2]; exact ⟨rfl,rfl⟩
  | step h2 IA hn=>rw [h.uniq h2] at ha; exact absurd ha IA
 | step h ha hn ih=>
  cases h' with
  | done h2 IA=>rw [h.uniq h2] at ha; exact absurd IA ha
  | step h2 IA hn2=>rw [<-h.uniq h2] at hn2; exact ih hn2
def Mx (es:List En) (M:Int->Prop) (b:Int):Prop:=(∀l,M l->lvl es l<=b)/\0<=b/\(b=0\/∃l,M l/\lvl es l=b)
theorem Mx.uniq {M M':Int->Prop} {b b':Int} (h:Mx es M b) (h':Mx es M' b') (hm:∀l,M l↔M' l):b=b':=by
 obtain ⟨h1,h2,h3⟩:=h;obtain ⟨g1,g2,g3⟩:=h';rcases h3 with rfl | ⟨l,hl,rfl⟩
 ·rcases g3 with rfl | ⟨l,hl,rfl⟩
  ·rfl
  ·have:=h1 l ((hm l).2 hl); omega
 ·have:=g1 l ((hm l).1 hl);rcases g3 with rfl | ⟨l',jh,rfl⟩
  ·omega
  ·have:=h1 l' ((hm l').2 jh); omega
theorem Mx.nil {M:Int->Prop} (h:∀l,¬M l):Mx es M 0:=⟨λl hl=>absurd hl (h l),Int.le_refl _,Or.inl rfl⟩
theorem Mx.add {M M':Int->Prop} {b:Int} {l:Int} (h:Mx es M b) (hm:∀x,M' x↔M x\/x=l) (h0:0<=lvl es l):Mx es M' (if lvl es l>b then lvl es l else b):=by
 obtain ⟨h1,h2,h3⟩:=h;split
 ·rename_i hg;refine ⟨λx hx=>?_,h0,Or.inr ⟨l,(hm l).2 (Or.inr rfl),rfl⟩⟩;rcases (hm x).1 hx with hx | rfl
  ·have:=h1 x hx; omega
  ·exact Int.le_refl _
 ·rename_i hg;refine ⟨λx hx=>?_,h2,?_⟩
  ·rcases (hm x).1 hx with hx | rfl
   ·exact h1 x hx
   ·omega
  ·rcases h3 with h | ⟨x,hx,e⟩
   ·exact Or.inl h
   ·exact Or.inr ⟨x,(hm x).2 (Or.inl hx),e⟩
theorem Mx.same {M M':Int->Prop} {b:Int} (h:Mx es M b) (hm:∀l,M' l↔M l):Mx es M' b:=
 ⟨λl hl=>h.1 l ((hm l).1 hl),h.2.1,h.2.2.imp id λ⟨l,hl,e⟩=>⟨l,(hm l).2 hl,e⟩⟩
def jt (es:List En) (cs:List Int) (u back:Int) (cl:List Int):Prop:=
 qM es cs u/\((u≠0/\cl=[]/\back=0)\/(u=0/\∃top,Mx es (·∈cs) top/\((top=0/\cl=[]/\back=-1)\/
  (0<top/\∃o F L,Dr es top (·∈cs) o F/\Td (λl=>F l/\l≠o/\0<lvl es l) L/\cl=o :: L/\Mx es (·∈L) back))))
theorem jt.uniq {cs:List Int} {u u' b b':Int} {cl cl':List Int} (h:jt es cs u b cl) (h':jt es cs u' b' cl'):u=u'/\b=b'/\cl=cl':=by
 obtain ⟨ha,h⟩:=h;obtain ⟨ha',h'⟩:=h';obtain rfl:=ha.unique ha';refine ⟨rfl,?_⟩;rcases h with ⟨hu,rfl,rfl⟩ | ⟨hu,top,hM,h⟩<;>rcases h' with ⟨Gk,rfl,rfl⟩ | ⟨Gk,top',Tm,h'⟩
 ·exact ⟨rfl,rfl⟩
 ·exact absurd Gk hu
 ·exact absurd hu Gk
 ·obtain rfl:=hM.uniq Tm λl=>Iff.rfl;rcases h with ⟨ht,rfl,rfl⟩ | ⟨ht,o,F,L,hL,hT,rfl,hb⟩<;>rcases h' with ⟨ht',rfl,rfl⟩ | ⟨ht',o',F',L',Tp,Zt,rfl,lP⟩
  ·exact ⟨rfl,rfl⟩
  ·omega
  ·omega
  ·obtain ⟨rfl,rfl⟩:=hL.uniq Tp;obtain rfl:=hT.uniq Zt λl _=>Iff.rfl;exact ⟨hb.uniq lP λl=>Iff.rfl,rfl⟩
theorem Dr.sub {top:Int} {S F:Int->Prop} {o:Int} (hF:Fm es) (hr:∀x∈es,∀l∈x.rs,l≠x.lit->fl l=true/\∃y∈es,y.lit=neg l) (h:Dr es top S o F) :
  (∀l,S l->fl l=true/\∃y∈es,y.lit=neg l)->(∀l,F l->fl l=true/\∃y∈es,y.lit=neg l)/\F o:=by
 induction h with
 | done h ha=>exact λhS=>⟨hS,h.mem⟩
 | step h ha hn ih=>
  intro hS;refine ih λl hl=>?_;rcases hl with ⟨hl,_⟩ | ⟨hl,bz⟩
  ·exact hS l hl
  ·exact hr _ (List.mem_of_getElem? h.jr) l hl bz
theorem tu (hF:Fm es):∀x∈es,∀l∈x.rs,l≠x.lit->fl l=true/\∃y∈es,y.lit=neg l:=by
 intro x hx l hl bz;obtain ⟨i,hi⟩:=List.mem_iff_getElem?.1 hx;have hr:=(hF i x hi).2.2.2 (λe=>by rw [e] at hl; cases hl);obtain ⟨y,hy,e⟩:=hr.2.2 l hl bz;exact ⟨List.all_eq_true.1 hr.1 l hl,y,(List.take_sublist _ _).subset hy,e⟩
theorem nN (hF:Fm es) {i:Nat} {x:En} (hx:es[i]?=some x) {l:Int} (hl:l∈x.rs) (bz:l≠x.lit):∃j y,j<i/\es[j]?=some y/\y.lit=neg l:=by
 have hr:=(hF i x hx).2.2.2 (λe=>by rw [e] at hl; cases hl);obtain ⟨y,hy,e⟩:=hr.2.2 l hl bz;obtain ⟨j,hj⟩:=List.mem_iff_getElem?.1 hy;rw [List.getElem?_take] at hj;split at hj
 ·rename_i h; exact ⟨j,y,h,hj,e⟩
 ·cases hj
end
end bU
namespace bU
open Go Vc T
open bt (cQ aL aA bg aO copy same aB Sl sv)
open dw (Td sY)
def keys (f:List (Int×Int)):List Int:=f.map λp:Int×Int=>p.1
structure In (f:List (Int×Int)) (S:Int->Prop):Prop where
 nd:(keys f).Nodup
 mem:∀l,l∈keys f↔S l
 one:∀p∈f,p.2=1
theorem Vn (l:Int):∀{f:List (Int×Int)},(∀p∈f,p.2=1)->bY l f=if l∈keys f then 1 else 0:=by
 intro f;induction f with
 | nil=>intro _; rfl
 | cons p f ih=>
  intro h;unfold bY;by_cases hp:p.1=l
  ·rw [if_pos hp,h p (by simp),if_pos (by simp [keys,hp])]
  ·rw [if_neg hp,ih λq hq=>h q (by simp [hq])];have:l∈keys (p :: f)↔l∈keys f:=by
    simp only [keys,List.map_cons,List.mem_cons];exact ⟨λh=>h.elim (λe=>absurd e.symm hp) id,Or.inr⟩
   simp only [this]
theorem Q_ {k v:Int} {p:Int×Int} : ∀{f:List (Int×Int)},p∈gV k v f->p∈f\/p=(k,v):=by
 intro f;induction f with
 | nil=>intro h; simp [gV] at h; exact Or.inr h
 | cons q f ih=>
  intro h;unfold gV at h;split at h
  ·rcases List.mem_cons.1 h with h | h
   ·exact Or.inr h
   ·exact Or.inl (by simp [h])
  ·rcases List.mem_cons.1 h with h | h
   ·exact Or.inl (by simp [h])
   ·exact (ih h).imp (λh=>by simp [h]) id
theorem MK (k:Int):∀f:List (Int×Int),nD k f=true↔k∈keys f:=by
 intro f;induction f with
 | nil=>simp [nD,keys]
 | cons p f ih=>
  simp only [nD,Bool.or_eq_true,decide_eq_true_eq,ih,keys,List.map_cons,List.mem_cons];exact ⟨λh=>h.imp Eq.symm id,λh=>h.imp Eq.symm id⟩
theorem In.get {f:List (Int×Int)} {S:Int->Prop} (h:In f S) (l:Int):(S l/\bY l f=1)\/(¬S l/\bY l f=0):=by
 rw [Vn l h.one];by_cases hl:S l
 ·exact Or.inl ⟨hl,if_pos ((h.mem l).2 hl)⟩
 ·exact Or.inr ⟨hl,if_neg λhh=>hl ((h.mem l).1 hh)⟩
theorem In.put {f:List (Int×Int)} {S:Int->Prop} (h:In f S) (l:Int):In (gV l 1 f) (λx=>S x\/x=l):=by
 have hk:keys (gV l 1 f)=Is (keys f) l:=MG l 1 f;refine ⟨?_,λx=>?_,λp hp=>?_⟩
 ·rw [hk];unfold Is;split
  ·exact h.nd
  ·rename_i dO;rw [List.nodup_append];exact ⟨h.nd,by simp,λa ha b hb=>by simp at hb; subst hb; exact λe=>dO (e ▸ ha)⟩
 ·rw [hk];unfold Is;split
  ·rename_i nB;rw [h.mem];exact ⟨Or.inl,λhh=>hh.elim id λe=>by rw [e]; exact (h.mem l).1 nB⟩
  ·rw [List.mem_append,List.mem_singleton,h.mem]
 ·rcases Q_ hp with hp | rfl
  ·exact h.one p hp
  ·rfl
theorem EZ {k:Int} : ∀{f:List (Int×Int)},(keys f).Nodup->(keys (mW k f)).Nodup/\(∀l,l∈keys (mW k f)↔l∈keys f/\l≠k):=by
 intro f;induction f with
 | nil=>intro _; exact ⟨List.nodup_nil,λl=>⟨λh=>by simp [keys,mW] at h,λh=>by simp [keys] at h⟩⟩
 | cons p f ih=>
  intro hn;have Vo:p.1∉keys f/\(keys f).Nodup:=by simpa [keys] using hn
  unfold mW;split
  ·rename_i hp;refine ⟨Vo.2,λl=>⟨λh=>⟨by simp only [keys,List.map_cons,List.mem_cons]; exact Or.inr h,λe=>Vo.1 (by rw [hp,<-e]; exact h)⟩,λ⟨h,bz⟩=>?_⟩⟩;simp only [keys,List.map_cons,List.mem_cons] at h;exact h.elim (λe=>absurd (e.trans hp) bz) id
  ·rename_i hp;obtain ⟨h1,h2⟩:=ih Vo.2;have e:keys (p :: mW k f)=p.1 :: keys (mW k f):=rfl;have e2:keys (p :: f)=p.1 :: keys f:=rfl;rw [e,e2];refine ⟨List.nodup_cons.2 ⟨λh=>Vo.1 ((h2 _).1 h).1,h1⟩,λl=>?_⟩;rw [List.mem_cons,List.mem_cons,h2];exact ⟨λh=>h.elim (λe=>⟨Or.inl e,by rw [e]; exact hp⟩) λh=>⟨Or.inr h.1,h.2⟩,λ⟨h,bz⟩=>h.elim Or.inl λh=>Or.inr ⟨h,bz⟩⟩
theorem Ra {k:Int} {p:Int×Int} : ∀{f:List (Int×Int)},p∈mW k f->p∈f:=by
 intro f;induction f with
 | nil=>intro h; cases h
 | cons q f ih=>
  intro h;unfold mW at h;split at h
  ·simp [h]
  ·rcases List.mem_cons.1 h with h | h
   ·simp [h]
   ·simp [ih h]
theorem In.del {f:List (Int×Int)} {S:Int->Prop} (h:In f S) (l:Int):In (mW l f) (λx=>S x/\x≠l):=
 ⟨(EZ h.nd).1,λx=>by rw [(EZ h.nd).2,h.mem],λp hp=>h.one p (Ra hp)⟩
theorem In.iff {f:List (Int×Int)} {S S':Int->Prop} (h:In f S) (hs:∀l,S' l↔S l):In f S':=⟨h.nd,λl=>by rw [h.mem,hs],h.one⟩
theorem In.len {f:List (Int×Int)} {S:Int->Prop} (h:In f S) (hf:∀l,S l->fl l=true):f.length<=2097153:=by
 have:=aaP (-1048576) 2097153 (keys f) h.nd λx hx=>by
  have:=bx.1 (hf x ((h.mem x).1 hx));omega
 simpa [keys] using this
def mG (es:List En) (top:Int) (f:List (Int×Int)):Nat:=(f.filter λp:Int×Int=>decide (lvl es p.1=top)).length
section
variable {es:List En} {top:Int} {f:List (Int×Int)} {S:Int->Prop}
theorem Vp (h:In f S) {l:Int} (hl:¬S l):mG es top (gV l 1 f)=mG es top f+if lvl es l=top then 1 else 0:=by
 have hm:nD l f=false:=by
  rw [<-Bool.not_eq_true,MK]; exact λhh=>hl ((h.mem l).1 hh)
 rw [Cs hm];unfold mG;rw [List.filter_append,List.length_append];congr 1;by_cases e:lvl es l=top
 ·rw [if_pos e,List.filter_cons_of_pos (by simpa using e)]; rfl
 ·rw [if_neg e,List.filter_cons_of_neg (by simpa using e)]; rfl
theorem Ke {l:Int} : ∀{f:List (Int×Int)},l∈keys f->mG es top (mW l f)+(if lvl es l=top then 1 else 0)=mG es top f:=by
 intro f;induction f with
 | nil=>intro h; simp [keys] at h
 | cons p f ih=>
  intro h;unfold mW;by_cases hp:p.1=l
  ·rw [if_pos hp];unfold mG;by_cases e:lvl es l=top
   ·rw [if_pos e,List.filter_cons_of_pos (by simpa [hp] using e)]; rfl
   ·rw [if_neg e,List.filter_cons_of_neg (by simpa [hp] using e)]; rfl
  ·rw [if_neg hp];have h':l∈keys f:=by
    simp only [keys,List.map_cons,List.mem_cons] at h;exact h.elim (λe=>absurd e.symm hp) id
   have ih:=ih h';unfold mG at ih ⊢;by_cases e:lvl es p.1=top
   ·rw [List.filter_cons_of_pos (by simpa using e),List.filter_cons_of_pos (by simpa using e),List.length_cons,List.length_cons]; omega
   ·rw [List.filter_cons_of_neg (by simpa using e),List.filter_cons_of_neg (by simpa using e)]; exact ih
theorem Vq (h:In f S) (hc:1<=mG es top f):∃l,S l/\lvl es l=top:=by
 unfold mG at hc;obtain ⟨p,hp⟩:=bg (show 0<(f.filter λp:Int×Int=>decide (lvl es p.1=top)).length by omega);have hm:=List.mem_filter.1 (List.mem_of_getElem? hp);exact ⟨p.1,(h.mem _).1 (List.mem_map.2 ⟨p,hm.1,rfl⟩),by simpa using hm.2⟩
theorem Vr (h:In f S) {l0:Int} (h0:S l0) (h1:lvl es l0=top):mG es top f=1↔∀l,S l->lvl es l=top->l=l0:=by
 have pS:((f.filter λp:Int×Int=>decide (lvl es p.1=top)).map λp:Int×Int=>p.1).Nodup:=h.nd.sublist ((List.filter_sublist ..).map _);have pI:∀l,S l->lvl es l=top->l∈(f.filter λp:Int×Int=>decide (lvl es p.1=top)).map λp:Int×Int=>p.1:=λl hl ht=>by
  obtain ⟨p,hp,rfl⟩:=List.mem_map.1 ((h.mem l).2 hl);exact List.mem_map.2 ⟨p,List.mem_filter.2 ⟨hp,by simpa using ht⟩,rfl⟩
 have xx:∀l∈(f.filter λp:Int×Int=>decide (lvl es p.1=top)).map λp:Int×Int=>p.1,S l/\lvl es l=top:=λl hl=>by
  obtain ⟨p,hp,rfl⟩:=List.mem_map.1 hl;have:=List.mem_filter.1 hp;exact ⟨(h.mem _).1 (List.mem_map.2 ⟨p,this.1,rfl⟩),by simpa using this.2⟩
 have hGl:((f.filter λp:Int×Int=>decide (lvl es p.1=top)).map λp:Int×Int=>p.1).length=mG es top f:=by simp [mG]
 rw [<-hGl];clear hGl;generalize (f.filter λp:Int×Int=>decide (lvl es p.1=top)).map (λp:Int×Int=>p.1)=G at *
 constructor
 ·intro hG l hl ht;obtain ⟨g,rfl⟩:=List.length_eq_one_iff.1 hG;have a:=pI l hl ht;have b:=pI l0 h0 h1;simp at a b;rw [a,b]
 ·intro fA;match G,pS,xx,pI l0 h0 h1 with
  | [g],_,_,_=>rfl
  | a :: b :: t,pS,xx,_=>
   have e1:=fA a (xx a (by simp)).1 (xx a (by simp)).2;have e2:=fA b (xx b (by simp)).1 (xx b (by simp)).2;rw [e1,e2] at pS;simp at pS
theorem Rb {g:List (Int×Int)} (h:f.Perm g):mG es top f=mG es top g:=(h.filter _).length_eq
theorem Rc (p:Int×Int) (g:List (Int×Int)):mG es top (p :: g)=mG es top g+if lvl es p.1=top then 1 else 0:=by
 unfold mG;by_cases e:lvl es p.1=top
 ·rw [if_pos e,List.filter_cons_of_pos (by simpa using e)]; rfl
 ·rw [if_neg e,List.filter_cons_of_neg (by simpa using e)]; rfl
end
def qT (es:List En) (cs:List Int) (w:World) (v:Value) (w':World):Prop:=∃(u back:Int) (g:Option Addr) (gn gc:Nat) (cl:List Int),v=.tuple #[.slice g gn gc,I back,I u]/\jt es cs u back cl/\bR w' 3 1 g gn gc (cl.map I)/\(∀j,ob g j->w.heap.size<=j)/\af aq w w'
section
variable {w w':World} {p q:Option Addr} {n m c d:Nat} {es:List En} {cs:List Int}
structure Sr (w:World) (es:List En) (b2 b7 ra:Nat) (p:Option Addr) (n c:Nat) (fa:List (Int×Int)):Prop where
 rd:mF w p n es
 tr:b_ w b2 [.slice p n c] 173
 am:b_ w b7 [.map (some ra)] 222
 mp:Mp w ra fa
 pm:Pm fa es
theorem Sr.aa {b2 b7 ra:Nat} {fa:List (Int×Int)} (h:Sr w es b2 b7 ra p n c fa) (hk:af aq w w'):Sr w' es b2 b7 ra p n c fa:=
 ⟨h.rd.aa hk,h.tr.aa hk,h.am.aa hk,h.mp.aa hk,h.pm⟩
theorem uY {b2 b7 ra:Nat} {fa:List (Int×Int)} (hF:Fm es) (hn:n<=1048576) (h:Sr w es b2 b7 ra p n c fa) {l:Int} (hl:fl l=true) (hm:∃y∈es,y.lit=neg l) {R:Ending->World->Prop}
  (hR:∀w',af aq w w'->R (.returned (I (lvl es l))) w') :
  wS Tryz.prog (.func (.func 176) #[] #[.pointer (some (⟨b2,0,none⟩:Addr)),.pointer (some (⟨b7,0,none⟩:Addr))]) [I l] w R:=by
 refine dP ⟨afa,?_⟩;refine ((Ii l ⟨b2,0,none⟩ ⟨b7,0,none⟩ w (λv w'=>v=I (lvl es l)/\af aq w w') ?_).mono λe w' ⟨v,he,hv,hk⟩=>by rw [he,hv]; exact hR w' hk);unfold ae9;obtain ⟨y,hy,iB⟩:=hm;obtain ⟨i,hi⟩:=List.mem_iff_getElem?.1 hy;have yx:=J_ hF h.pm hi;rw [iB,neg_neg hl] at yx;refine au (h.tr.cell 0) (fH (h.am.cell 0) (lC wq Tryz.underlying3 z3 h.mp ?_));have aM:=(List.getElem?_eq_some_iff.1 hi).1;have hl:=h.rd.len;have e1:IntKind.wrap .i64 ((i:Int)+1 - 1)=(i:Int):=by rw [IntKind.wrap_i64]; omega
 rw [yx,e1];refine h.rd.ix hi λa ⟨_,_,_,_,c1,_⟩=>ah c1 ⟨?_,af.refl _ _⟩;rw [fS hF hi iB]
theorem Vs (hE:mF w p n es) (hn:n<=1048576) (hr:∀x∈es,x.rs.length<=1048576) (hC:cQ w q m cs) (hm:m<=1048576) :
  Calls Tryz.prog 140 #[.slice p n c,.slice q m d] w λe w'=>∃v,e=.returned v/\qT es cs w v w':=by
 refine Ih p n c q m d w (qT es cs w) ?_;unfold ae5;have g_:=hC.len;have uj:=hE.len;refine aD λb2 w1 rN bH k1=>?_;refine au (bH.cell 0) ?_;refine az XR (EV (hE.aa k1) (by omega)) λe w2 ⟨ra,fa,he,hra,hM,hP,k2⟩=>⟨_,he,?_⟩
 refine aD λb7 w3 hb7 mU k3=>?_;simp only [ag,Nat.add_zero,Nat.zero_add];refine aG mU (by simp) rfl λw4 mU k4 e4=>?_;simp only [List.set_cons_zero] at mU;have k34:af aq w2 w4:=k3.bw k4 (by omega);have bH:=(bH.aa k2).aa k34;have hM:=hM.aa k34;have uX:=(k1.ak k2).ak k34;refine au (bH.cell 0) (fH (mU.cell 0) ?_);refine az XS (Ka (hE.aa uX) hn hr (hC.aa uX) hm hM hP) λe w5 ⟨u,he,hu,k5⟩=>⟨_,he,?_⟩
 have wz:=uX.ak k5;by_cases hu0:u=0;case neg=>
  exact aX (by simpa using hu0) ⟨u,0,none,0,0,[],rfl,⟨hu,Or.inl ⟨hu0,rfl,rfl⟩⟩,bR.nil _ _ _,(λi ⟨a,h,_⟩=>by cases h),wz⟩
 subst hu0;have Gk:=hu;obtain ⟨afx,hF,fA⟩:AX es cs/\Fm es/\cs.all fl=true:=by
  rcases hu with ⟨h,_⟩ | ⟨h,_⟩ | ⟨_,h⟩
  ·cases h
  ·cases h
  ·exact h
 have sD:=oG hF (by omega);refine aT rfl ?_;have Re:Sr w5 es b2 b7 ra p n c fa:=⟨hE.aa wz,bH.aa k5,mU.aa k5,hM.aa k5,hP⟩
 have mN:∀l∈cs,fl l=true/\∃y∈es,y.lit=neg l:=λl hl=>⟨List.all_eq_true.1 fA l hl,afx l hl⟩
 have lv0:∀l,(∃y∈es,y.lit=neg l)->0<=lvl es l:=λl ⟨y,hy,e⟩=>by
  obtain ⟨i,hi⟩:=List.mem_iff_getElem?.1 hy;rw [fS hF hi e]; exact (sD i y hi).1
 refine ME λr w6 hrw hM6 k6=>?_;refine bX (λs W=>∃(i:Nat) (f:List (Int×Int)),s.2.1=(i:Int)/\i<=m/\Mx es (·∈cs.take i) s.1/\In f (·∈cs.take i)/\Ms W r f/\af aq w5 W) (λs _=>(m - s.2.1).toNat)
  ⟨0,[],rfl,Nat.zero_le _,Mx.nil (λl (h:l∈cs.take 0)=>by cases h),⟨List.nodup_nil,λl=>by simp [keys],λp h=>by cases h⟩,hM6,k6⟩ ?_
 rintro ⟨top,i',⟨⟩⟩ W ⟨i,f,rfl,hi,X6,hIn,Vt,kW⟩;simp only [] at X6 ⊢;refine aF (λaM=>?_) λbL=>?_
 ·have aM:i<m:=by simpa using aM
  rw [aA i (by omega)];refine (hC.aa (wz.ak kW)).ix aM λa l hl ha=>ah ha ?_;have J9:=mN l (List.mem_of_getElem? hl);refine uY hF hn (Re.aa kW) J9.1 J9.2 λW1 Cn=>⟨_,rfl,?_⟩
  refine QI wq Tryz.underlying3 (Vt.aa Cn) λW2 ak4 Ds z2=>⟨⟨i+1,gV l 1 f,rfl,aM,?_,?_,ak4,(kW.ak Cn).trans Ds λj hj h=>by have:j=r:=h; omega⟩,by omega⟩
  ·exact X6.add (λx=>by rw [aB hl,List.mem_append,List.mem_singleton]) (lv0 l J9.2)
  ·exact (hIn.put l).iff λx=>by rw [aB hl,List.mem_append,List.mem_singleton]
 have bL:i=m:=by simp at bL; omega
 subst bL;rw [<-g_,List.take_length] at X6 hIn;by_cases ht0:top=0
 ·subst ht0;exact aX rfl ⟨0, -1,none,0,0,[],rfl,⟨Gk,Or.inr ⟨rfl,0,X6,Or.inl ⟨rfl,rfl,rfl⟩⟩⟩,bR.nil _ _ _,(λi ⟨a,h,_⟩=>by cases h),wz.ak kW⟩
 have aa7:0<top:=by have:=X6.2.1; omega
 refine aT (by simpa using ht0) ?_;have hwr:w5.heap.size<=r:=by omega
 refine ER wq Vt λTl cK ak5 hIt fD=>?_;have ak6:=kW.size;have hq5:w5.heap.size<=Tl:=by omega
 -- F1 many are of yf afy level
 refine bX (λs V=>∃(k:Nat) (todo:List (Int×Int)),s.1=(k:Int)/\It V Tl r f todo/\k+mG es top todo=mG es top f/\(∀p∈todo,p∈f)/\af aq w5 V/\cK.heap.size<=V.heap.size) (λs V=>tj V r Tl)
  ⟨0,f,rfl,hIt,by omega,λp h=>h,kW.ak fD,Nat.le_refl _⟩ ?_
 rintro ⟨Gj,⟨⟩⟩ V ⟨k,todo,rfl,CS,hk,iX,kV,szV⟩;simp only [];have afz:=hIn.len λl hl=>(mN l hl).1;have klt:k<=f.length:=by
  have:mG es top f<=f.length:=List.length_filter_le ..;omega
 refine J6 CS CS.ne (λh0=>?_) λp0 jV V' hp0 nP Vu kq sq uV=>?_;case _=>
  -- on to yf steps back
  subst h0;have hkc:k=mG es top f:=by simpa [mG] using hk
  subst hkc;refine aT rfl (au ((Re.aa kV).tr.cell 0) ?_);have E1:1<=mG es top f:=by
   rcases X6.2.2 with h | ⟨l,hl,e⟩
   ·omega
   ·have h1:mG es top (mW l f)+(if lvl es l=top then 1 else 0)=mG es top f:=Ke ((hIn.mem l).2 hl);rw [if_pos e] at h1; omega
  have eN:IntKind.wrap .i64 ((n:Int) - 1)=(n:Int) - 1:=by rw [IntKind.wrap_i64]; omega
  rw [eN];refine bX (λs X=>∃(f:List (Int×Int)) (S:Int->Prop),s.1=(mG es top f:Nat)/\ -1<=s.2.1/\s.2.1<n/\In f S/\(∀l,S l->fl l=true/\∃y∈es,y.lit=neg l)/\(∀l,S l->lvl es l<=top)/\1<=mG es top f/\
    (∀(j:Nat) (y:En),s.2.1<(j:Int)->es[j]?=some y->y.dM=top->¬S (neg y.lit))/\(∀o F,Dr es top S o F->Dr es top (·∈cs) o F)/\Ms X r f/\af aq w5 X) (λs _=>(s.2.1+1).toNat)
   ⟨f,(·∈cs),rfl,by show -1<=(n:Int) - 1; omega,by show (n:Int) - 1<n; omega,hIn,mN,X6.1,E1,λj y hj hy=>?_,λo F h=>h,CS.ms,kV⟩ ?_
  ·have:=(List.getElem?_eq_some_iff.1 hy).1;have:(n:Int) - 1<j:=hj;omega
  clear hIn Vt hk hIt CS iX klt afz E1 kV kW fD ak5 ak6 szV hrw;rintro ⟨v54,v55,⟨⟩⟩ X ⟨f,S,rfl,Ax,nB,hIn,hS,hSl,E1,Rf,hLr,Vt,kX⟩;simp only [] at Ax nB Rf ⊢;obtain ⟨i,rfl⟩:∃i:Nat,v55=(i:Int):=by
   obtain ⟨l,hl,e⟩:=Vq hIn E1;obtain ⟨kI,y,hy,iB⟩:=hS l hl;obtain ⟨j,hj⟩:=List.mem_iff_getElem?.1 hy;rw [fS hF hj iB] at e;have Q8:neg y.lit=l:=by rw [iB,neg_neg kI]
   have:¬v55<(j:Int):=λh=>Rf j y h hj e (by rw [Q8]; exact hl);exact ⟨v55.toNat,by omega⟩
  obtain ⟨x,hx⟩:=bg (show i<es.length by omega);have hxf:=(hF i x hx).1;have HV:=List.mem_of_getElem? hx;have eI:IntKind.wrap .i64 ((i:Int) - 1)=(i:Int) - 1:=by rw [IntKind.wrap_i64]; omega
  refine Bh ?_;have hSX:=Re.aa kX;refine au (hSX.tr.cell 0) (hSX.rd.ix hx λa0 ⟨_,_,_,c0,c1,c2,hq0⟩=>ah c0 (lC wq Tryz.underlying3 z3 Vt.mp ?_));have afA:(x.dM=top->¬S (neg x.lit))->(∃(g:List (Int×Int)) (S:Int->Prop),((mG es top f:Nat):Int)=(mG es top g:Nat)/\ -1<=(i:Int) - 1/\(i:Int) - 1<n/\In g S/\(∀l,S l->fl l=true/\∃y∈es,y.lit=neg l)/\(∀l,S l->lvl es l<=top)/\1<=mG es top g/\
    (∀(j:Nat) (y:En),(i:Int) - 1<(j:Int)->es[j]?=some y->y.dM=top->¬S (neg y.lit))/\(∀o F,Dr es top S o F->Dr es top (·∈cs) o F)/\Ms X r g/\af aq w5 X)/\((i:Int) - 1+1).toNat<((i:Int)+1).toNat:=by
   intro dO;refine ⟨⟨f,S,rfl,by omega,by omega,hIn,hS,hSl,E1,λj y hj hy hyt=>?_,hLr,Vt,kX⟩,by omega⟩;by_cases DY:(i:Int)<j
   ·exact Rf j y DY hy hyt
   ·obtain rfl:j=i:=by omega
    rw [hx] at hy; injection hy with hy; subst hy;exact dO hyt
  rcases hIn.get (neg x.lit) with ⟨hSx,e1⟩ | ⟨hSx,e1⟩
  case inr=>
   rw [show bY (IntKind.wrap .i64 (0 - x.lit)) f=0 from e1];refine a_ rfl (a_ rfl (a_ rfl (aX rfl ?_)));rw [eI];exact afA λ_=>hSx
  rw [show bY (IntKind.wrap .i64 (0 - x.lit)) f=1 from e1];refine aS rfl (au (hSX.tr.cell 0) (aS rfl (hSX.rd.ix hx λa1 ⟨_,_,_,_,d1,_⟩=>aS rfl (ah d1 ?_))));by_cases fG:x.dM=top;case neg=>
   refine aX (by simpa using fG) ?_;rw [eI];exact afA λh=>absurd h fG
  refine aT (by simp [fG]) ?_;have hGt:Gt es top S i x:=⟨hx,fG,hSx,λj y hj hy hyt=>Rf j y (by omega) hy hyt⟩
  have Dq:lvl es (neg x.lit)=top:=by rw [fS hF hx (neg_neg hxf).symm]; exact fG
  have h1:=Vr hIn hSx Dq;have afz:=hIn.len λl hl=>(hS l hl).1;by_cases hc1:mG es top f=1
  ·-- one alone is left
   refine aX (by simp [hc1]) ?_;have hAl:BA es top S x:=h1.1 hc1;have hL:=hLr _ _ (Dr.done hGt hAl);refine ER wq Vt λxw og aoI hIt F6=>?_;have szX:=kX.size;have hrX:=Vt.lt;refine bX (λs V=>∃(todo:List (Int×Int)) (os:List Int),It V xw r f todo/\s.2.1.2.1=os.length/\os.length+todo.length<=f.length/\bR V 3 1 s.2.1.1 s.2.1.2.1 s.2.1.2.2 (os.map I)/\(∀j,ob s.2.1.1 j->xw<j)/\af aq w5 V/\xw<V.heap.size/\
     (keys todo).Nodup/\(∀l,l∈os↔(S l/\l∉keys todo)/\l≠neg x.lit/\0<lvl es l)/\(∀p∈todo,p∈f)/\Mx es (·∈os) s.1) (λs V=>tj V r xw)
    ⟨f,[],hIt,rfl,by simp,bR.nil _ _ _,(λi ⟨a,h,_⟩=>by cases h),kX.ak F6,by have:=hIt.lt; omega,hIn.nd,(λl=>⟨(λh=>by cases h),λh=>absurd ((hIn.mem l).2 h.1.1) h.1.2⟩),(λp h=>h),Mx.nil (λl (h:l∈([]:List Int))=>by cases h)⟩ ?_
   rintro ⟨bk,⟨v81,Ig,MF⟩,⟨⟩⟩ V ⟨todo,os,CS,aa8,hlen,hO,mz,kV,hqV,pS,hos,iX,Vv⟩;simp only [] at aa8 hO mz Vv ⊢;refine J6 CS CS.ne (λh0=>?_) λp0 jV V' hp0 nP Vu kq sq uV=>?_
   ·-- all are gone through
    subst h0;refine aT rfl (aD λVh xg aol afB Kf=>?_);have ak7:=hO.aa Kf;refine az O8 (dw.Bp (aL ak7) (by omega)) λe yp ⟨v,L,he,hT,g,gc,hv,hOg,hgf,Mn⟩=>⟨_,_,_,he.trans (congrArg Ending.returned hv),?_⟩
    have hTl:=hT.len;have ak8:=afB.aa Mn;have ak9:bR yp 3 1 (some ⟨Vh,0,none⟩) 1 1 [I (neg x.lit)]:=Or.inr ⟨Vh,_,rfl,ak8,Nat.le_refl _,by simp only [maxLen]; omega,rfl,rfl⟩;refine qm (e:=3) (sz:=1) (z:=I 0) (B:=8) Tryz.underlying59 (by kernel_rfl) rfl (by omega) ak9 hOg.news (λu hu=>?_) (by simp only [maxLen]; omega) (by omega) λp' c' Er ala kk hpp=>?_
    ·obtain ⟨y,_,rfl⟩:=List.mem_map.1 hu; rfl
    have szV:=kV.size;have aoJ:=Kf.size;have aoK:=Mn.size;have kE:af aq w5 Er:=((kV.ak Kf).ak Mn).trans kk λj hj ⟨a,h,h'⟩=>by cases h; simp only [] at h'; omega
    have sz5:=wz.size;refine ⟨0,bk,p',1+L.length,c',neg x.lit :: L,rfl,⟨Gk,Or.inr ⟨rfl,top,X6,Or.inr ⟨aa7,neg x.lit,S,L,hL,⟨hT.S5,λl=>?_⟩,rfl,?_⟩⟩⟩,ala,λj hj=>?_,wz.ak kE⟩
    ·rw [hT.mem,hos];simp only [keys,List.map_nil,List.not_mem_nil,not_false_eq_true,and_true]
    ·refine Vv.same λl=>?_;rw [hT.mem];exact ⟨λh=>h.1,λh=>⟨h,(hS l ((hos l).1 h).1.1).1⟩⟩
    ·rcases hpp j hj with ⟨a,h,h'⟩ | h
     ·cases h; simp only [] at h'; omega
     ·omega
   ·refine aX rfl ⟨_,_,_,uV,?_⟩;have Vx:S p0.1:=(hIn.mem _).1 (List.mem_map.2 ⟨p0,iX p0 hp0,rfl⟩);obtain ⟨hpf,hpe⟩:=hS _ Vx;have Pp:af aq w5 V':=kV.trans kq λj hj h=>by have:j=xw:=h; omega
    have Ll:p0.1∉keys jV/\(keys jV).Nodup:=by
     have:=(nP.map λp:Int×Int=>p.1).nodup_iff.1 pS;simpa [keys] using this
    have X4:∀l,l∈keys todo↔l=p0.1\/l∈keys jV:=λl=>by
     have:=(nP.map λp:Int×Int=>p.1).mem_iff (a:=l);simpa [keys] using this
    have Rh:todo.length=jV.length+1:=by have:=nP.length_eq; simpa using this
    have E2:∀p∈jV,p∈f:=λp hp=>iX p (nP.mem_iff.2 (by simp [hp]));have pT:bR V' 3 1 v81 Ig MF (os.map I):=hO.ax kq λj hj h=>by have:=mz j hj; have:j=xw:=h; omega
    have aoL:xw<V'.heap.size:=by omega
    have lft:∀{Y:World},It Y xw r f jV->tj Y r xw<tj V r xw:=λh=>by rw [h.left,CS.left]; omega
    have skip:∀{Y:World},af aq V' Y->(p0.1=neg x.lit\/¬0<lvl es p0.1)->(∃(todo:List (Int×Int)) (os':List Int),It Y xw r f todo/\Ig=os'.length/\os'.length+todo.length<=f.length/\bR Y 3 1 v81 Ig MF (os'.map I)/\(∀j,ob v81 j->xw<j)/\af aq w5 Y/\xw<Y.heap.size/\
      (keys todo).Nodup/\(∀l,l∈os'↔(S l/\l∉keys todo)/\l≠neg x.lit/\0<lvl es l)/\(∀p∈todo,p∈f)/\Mx es (·∈os') bk)/\tj Y r xw<tj V r xw:=by
     intro Y kY dO;have CT:=Vu.aa kY;refine ⟨⟨jV,os,CT,aa8,by omega,pT.aa kY,mz,Pp.ak kY,by have:=kY.size; omega,Ll.2,λl=>?_,E2,Vv⟩,lft CT⟩;rw [hos];refine ⟨λ⟨⟨a,b⟩,h⟩=>⟨⟨a,λhh=>b ((X4 l).2 (Or.inr hh))⟩,h⟩,λ⟨⟨a,b⟩,h⟩=>⟨⟨a,λhh=>?_⟩,h⟩⟩;rcases (X4 l).1 hh with rfl | hh
     ·rcases dO with e | e
      ·exact h.1 e
      ·exact e h.2
     ·exact b hh
    show gd (p0.1 != neg x.lit) _ _ _ _;by_cases hpx:p0.1=neg x.lit
    ·have e0:(p0.1 != neg x.lit)=false:=by simp [hpx]
     refine a_ e0 (aT (by show cond (p0.1 != neg x.lit) _ _=_; rw [e0]; rfl) ?_);exact skip (af.refl _ _) (Or.inl hpx)
    have e0:(p0.1 != neg x.lit)=true:=by simpa using hpx
    refine aS e0 (uY hF hn (Re.aa Pp) hpf hpe λV2 Ds=>⟨_,rfl,?_⟩);show bC (cond (p0.1 != neg x.lit) (decide (lvl es p0.1>0)) false) _ _;rw [e0];by_cases S3:0<lvl es p0.1;case neg=>
     refine aT (by simpa using S3) ?_;exact skip Ds (Or.inr S3)
    refine aX (by simpa using S3) ?_;refine aD λb96 V3 aoM alb Kg=>?_;have F9:=(pT.aa Ds).aa Kg;refine fI (e:=3) (sz:=1) (z:=I 0) (B:=8) Tryz.underlying59 (by kernel_rfl) rfl (by omega) F9 alb.kU (λu hu=>?_) (by simp only [maxLen]; omega) (by omega) λp' c' V4 uA hd4=>?_
    ·simp only [List.mem_singleton] at hu; subst hu; rfl
    have sz2:=Ds.size;have sz3:=Kg.size;have X7:af (λj=>xw<j) V3 V4/\∀j,ob p' j->xw<j:=by
     rcases hd4 with ⟨x1,_,_,x2⟩ | ⟨x1,x2⟩
     ·exact ⟨x2.mono λi _ hi=>mz i hi,λi hi=>by rw [x1] at hi; exact mz i hi⟩
     ·exact ⟨x2.none,λi hi=>by have:=x1 i hi; omega⟩
    have kV4:af aq w5 V4:=((Pp.ak Ds).ak Kg).trans X7.1 λj hj h=>by have:xw<j:=h; omega
    have ald:It V4 xw r f jV:=((Vu.aa Ds).aa Kg).ax X7.1 (λh=>by have:xw<xw:=h; omega) λh=>by have:xw<r:=h; omega
    refine uY hF hn (Re.aa kV4) hpf hpe λV5 Zw=>⟨_,rfl,?_⟩
    have CT:=ald.aa Zw;have sz4:=X7.1.size;have aoN:=Zw.size;refine ⟨⟨jV,os++[p0.1],CT,by simp [aa8],by simp; omega,?_,X7.2,kV4.ak Zw,by omega,Ll.2,λl=>?_,E2,?_⟩,lft CT⟩
    ·rw [List.map_append]; exact uA.aa Zw
    ·rw [List.mem_append,List.mem_singleton,hos];constructor
     ·rintro (⟨⟨a,b⟩,h⟩ | rfl)
      ·exact ⟨⟨a,λhh=>b ((X4 l).2 (Or.inr hh))⟩,h⟩
      ·exact ⟨⟨Vx,Ll.1⟩,hpx,S3⟩
     ·rintro ⟨⟨a,b⟩,h⟩;by_cases e:l=p0.1
      ·exact Or.inr e
      ·exact Or.inl ⟨⟨a,λhh=>((X4 l).1 hh).elim e b⟩,h⟩
    ·exact Vv.add (λl=>by rw [List.mem_append,List.mem_singleton]) (by omega)
  ·-- a step back
   refine aT (by simp; omega) ?_;have hAl:¬BA es top S x:=λh=>hc1 (h1.2 h);have hdk:(neg x.lit)∈keys f:=(hIn.mem _).2 hSx;have hcd:mG es top (mW (neg x.lit) f)+(if lvl es (neg x.lit)=top then 1 else 0)=mG es top f:=Ke hdk;rw [if_pos Dq] at hcd;have eC:IntKind.wrap .i64 (((mG es top f:Nat):Int) - 1)=((mG es top (mW (neg x.lit) f):Nat):Int):=by
    have:mG es top f<=f.length:=List.length_filter_le ..;rw [IntKind.wrap_i64]; omega
   rw [eC];refine aaO wq Tryz.underlying3 Vt λX1 afC Cn z1'=>?_;have afD:∀{j:Nat},One r j->w5.heap.size<=j:=λh=>by have:_=r:=h; omega
   have kX1:af aq w5 X1:=kX.trans Cn λj hj h=>by have:=afD h; omega
   have afE:=Re.aa kX1;refine au (afE.tr.cell 0) (afE.rd.ix hx λa2 ⟨rq,rn,rc,_,_,d2,hrq⟩=>au d2 ?_);have Pv:=hrq.len;have hrn:=hr x HV;refine bX (λs Y=>∃(j:Nat) (g:List (Int×Int)),s.2.1=(j:Int)/\j<=rn/\s.1=(mG es top g:Nat)/\In g (λl=>(S l/\l≠neg x.lit)\/(l∈x.rs.take j/\l≠x.lit))/\1<=mG es top g/\Ms Y r g/\af aq w5 Y/\af (One r) X1 Y) (λs _=>(rn - s.2.1).toNat)
    ⟨0,_,rfl,Nat.zero_le _,rfl,(hIn.del (neg x.lit)).iff λl=>by simp,by omega,afC,kX1,af.refl _ _⟩ ?_
   rintro ⟨QO,j',⟨⟩⟩ Y ⟨j,g,rfl,hj,rfl,E3,hcg,Oj,kY,kXY⟩;simp only [];have ale:∀{k:Nat} (l:Int),(S l/\l≠neg x.lit)\/(l∈x.rs.take k/\l≠x.lit)->fl l=true/\∃y∈es,y.lit=neg l:=λl h=>by
    rcases h with h | h
    ·exact hS l h.1
    ·exact tu hF x HV l ((List.take_sublist _ _).subset h.1) h.2
   have aoO:=E3.len λl hl=>(ale l hl).1;have gcl:mG es top g<=g.length:=List.length_filter_le ..;refine aF (λaM=>?_) λbL=>?_
   ·have aM:j<rn:=by simpa using aM
    refine Bh ?_;rw [aA j (by omega)];have hSY:=Re.aa kY;have alf:cQ Y rq rn x.rs:=wu hrq afC.mp kXY;refine alf.ix aM λa3 l hl ha=>ah ha (au (hSY.tr.cell 0) (hSY.rd.ix hx λa4 ⟨_,_,_,c4,_⟩=>ah c4 ?_));have X3:=List.mem_of_getElem? hl;have tk:∀l',l'∈x.rs.take (j+1)↔l'∈x.rs.take j\/l'=l:=λl'=>by rw [aB hl,List.mem_append,List.mem_singleton]
    by_cases Dq:l=x.lit
    ·have e0:(l != x.lit)=false:=by simp [Dq]
     refine a_ e0 (aT (by rw [e0]; rfl) ⟨⟨j+1,g,rfl,aM,rfl,E3.iff λl'=>?_,hcg,Oj,kY,kXY⟩,by omega⟩);rw [tk];exact ⟨λh=>h.imp id λ⟨a,b⟩=>⟨a.elim id λe=>absurd (e.trans Dq) b,b⟩,λh=>h.imp id λ⟨a,b⟩=>⟨Or.inl a,b⟩⟩
    have e0:(l != x.lit)=true:=by simpa using Dq
    refine aS e0 (lC wq Tryz.underlying3 z3 Oj.mp ?_);show bC (cond (l != x.lit) (bY l g==0) false) _ _;rw [e0];rcases E3.get l with ⟨nB,e2⟩ | ⟨nB,e2⟩
    ·rw [e2];refine aT rfl ⟨⟨j+1,g,rfl,aM,rfl,E3.iff λl'=>?_,hcg,Oj,kY,kXY⟩,by omega⟩;rw [tk];refine ⟨λh=>?_,λh=>h.imp id λ⟨a,b⟩=>⟨Or.inl a,b⟩⟩;rcases h with h | ⟨a | rfl,b⟩
     ·exact Or.inl h
     ·exact Or.inr ⟨a,b⟩
     ·exact nB
    ·rw [e2];refine aX rfl (QI wq Tryz.underlying3 Oj λY1 afF afG aoP=>?_);have kY1:af aq w5 Y1:=kY.trans afG λj hj h=>by have:=afD h; omega
     obtain ⟨hlf,hle⟩:=tu hF x HV l X3 Dq;refine uY hF hn (Re.aa kY1) hlf hle λY2 Ri=>⟨_,rfl,?_⟩
     have Lg:=Vp (es:=es) (top:=top) E3 nB;have nx:In (gV l 1 g) (λl'=>(S l'/\l'≠neg x.lit)\/(l'∈x.rs.take (j+1)/\l'≠x.lit)):=(E3.put l).iff λl'=>by
      rw [tk];constructor
      ·rintro (h | ⟨a | rfl,b⟩)
       ·exact Or.inl (Or.inl h)
       ·exact Or.inl (Or.inr ⟨a,b⟩)
       ·exact Or.inr rfl
      ·rintro ((h | h) | rfl)
       ·exact Or.inl h
       ·exact Or.inr ⟨Or.inl h.1,h.2⟩
       ·exact Or.inr ⟨Or.inr rfl,Dq⟩
     have afH:af (One r) X1 Y2:=(kXY.trans afG λ_ _ h=>h).ak Ri;refine aF (λht=>?_) λht=>?_
     ·have ht:lvl es l=top:=by simpa using ht
      rw [if_pos ht] at Lg;have eK:IntKind.wrap .i64 (((mG es top g:Nat):Int)+1)=((mG es top (gV l 1 g):Nat):Int):=by rw [IntKind.wrap_i64]; omega
      rw [eK];exact ⟨⟨j+1,_,rfl,aM,rfl,nx,by omega,afF.aa Ri,kY1.ak Ri,afH⟩,by omega⟩
     ·have ht:¬lvl es l=top:=by simpa using ht
      rw [if_neg ht] at Lg;have eK:((mG es top g:Nat):Int)=((mG es top (gV l 1 g):Nat):Int):=by omega
      rw [eK];exact ⟨⟨j+1,_,rfl,aM,rfl,nx,by omega,afF.aa Ri,kY1.ak Ri,afH⟩,by omega⟩
   ·have bL:j=rn:=by simp at bL; omega
    subst bL;rw [eI];rw [<-Pv,List.take_length] at E3;refine ⟨⟨g,Og S x,rfl,by omega,by omega,E3,λl hl=>?_,λl hl=>?_,hcg,λj y lW hy hyt Q8=>?_,λo F h=>hLr o F (Dr.step hGt hAl h),Oj,kY⟩,by omega⟩
    ·rcases hl with h | h
     ·exact hS l h.1
     ·exact tu hF x HV l h.1 h.2
    ·rcases hl with h | h
     ·exact hSl l h.1
     ·obtain ⟨k,y,hk,hy,iB⟩:=nN hF hx h.1 h.2;rw [fS hF hy iB,<-fG];exact (sD i x hx).2.2 k y (by omega) hy
    ·rcases Q8 with ⟨h,bz⟩ | ⟨h,bz⟩
     ·by_cases DY:(i:Int)<j
      ·exact Rf j y DY hy hyt h
      ·obtain rfl:j=i:=by omega
       rw [hx] at hy; injection hy with hy; subst hy;exact bz rfl
     ·obtain ⟨k,z,hk,hz,F8⟩:=nN hF hx h bz;rw [neg_neg (hF j y hy).1] at F8;have:=rM hF hz hy F8;omega
 ·-- one more entry
  refine aX rfl ⟨_,_,_,uV,?_⟩;have Vx:p0.1∈cs:=(hIn.mem _).1 (List.mem_map.2 ⟨p0,iX p0 hp0,rfl⟩);obtain ⟨hpf,hpe⟩:=mN _ Vx;have Pp:af aq w5 V':=kV.trans kq λj hj h=>by have:j=Tl:=h; omega
  refine uY hF hn (Re.aa Pp) hpf hpe λV2 Ds=>⟨_,rfl,?_⟩
  have CT:=Vu.aa Ds;have E2:∀p∈jV,p∈f:=λp hp=>iX p (nP.mem_iff.2 (by simp [hp]));have Kh:=(Rb (es:=es) (top:=top) nP).trans (Rc p0 jV);have pM:tj V2 r Tl<tj V r Tl:=by
   rw [CT.left,CS.left];have:=nP.length_eq;simp at this;omega
  have sz2:=Ds.size;refine aF (λht=>?_) λht=>?_
  ·have ht:lvl es p0.1=top:=by simpa using ht
   rw [if_pos ht] at Kh;rw [aA k (by omega)];exact ⟨⟨k+1,jV,rfl,CT,by omega,E2,Pp.ak Ds,by omega⟩,pM⟩
  ·have ht:¬lvl es p0.1=top:=by simpa using ht
   rw [if_neg ht] at Kh;exact ⟨⟨k,jV,rfl,CT,by omega,E2,Pp.ak Ds,by omega⟩,pM⟩
end
end bU
namespace bp
open Go Vc T
open bt (cQ aL aA bg aO aB Sl sv mE)
open dw (fl bx qG cZ cD idx bJ cO cH)
open mT (Ar AR words off cw F_)
open Trail (TI Tr St fR gj ij bW cR eY cL upto bZ dK Open jO)
open bU (En mF)
theorem zm {w:World} {a:Addr} {n c:Nat} {cs:List Int} (h:cQ w (some a) n cs):ql w 1 (some a) n c (cs.map I):=
 Or.inr ⟨a,rfl,by rw [List.length_map,h.len,Nat.mul_one],λj u hu=>by
  rw [List.getElem?_map] at hu;cases hx:cs[j]? with
  | none=>rw [hx] at hu; cases hu
  | some x=>
   rw [hx] at hu; injection hu with hu; subst hu;obtain ⟨a',ha,hc⟩:=h.cell j x hx;injection ha with ha; subst ha; exact hc⟩
theorem zo {w:World} {n:Nat} {cs:List Int} (h:cQ w none n cs):cs=[]/\n=0:=by
 have:=h.len;cases cs with
 | nil=>exact ⟨rfl,by simpa using this.symm⟩
 | cons x xs=>obtain ⟨a,ha,_⟩:=h.cell 0 x rfl; cases ha
theorem uZ {w:World} {p:Option Addr} {n c:Nat} {cs:List Int} (hR:cQ w p n cs) (hn:n<=8796093022208) :
  Calls Tryz.prog 142 #[.slice p n c] w λe w'=>∃v,e=.returned v/\mE w cs v w':=by
 refine Hl p n c w (mE w cs) ?_;unfold adm;cases p with
 | none=>
  obtain ⟨rfl,rfl⟩:=zo hR;exact aX rfl ⟨none,0,rfl,bR.nil _ _ _,(λi ⟨a,hh,_⟩=>by cases hh),af.refl _ _⟩
 | some a=>
  have hl:=hR.len;refine aT rfl (aD λb w1 hb hB k1=>?_);have z1:=k1.size;have hE:bR w1 3 1 (some ⟨b,0,none⟩) 0 0 []:=Or.inr ⟨b,[],rfl,hB,Nat.le_refl _,Nat.zero_le _,rfl,rfl⟩;refine fI (e:=3) (sz:=1) (z:=I 0) (B:=8) Tryz.underlying59 (by kernel_rfl) rfl (by omega) hE (zm (c:=c) (hR.ax k1 λ_ _ h=>h)) (λu hu=>?_) (by simp only [maxLen]; omega) (by omega) λp' c' w' pT hd=>?_
  ·obtain ⟨y,_,rfl⟩:=List.mem_map.1 hu; rfl
  ·rw [List.nil_append,Nat.zero_add] at pT;rw [Nat.zero_add];refine ⟨p',c',by rw [hl],by rw [hl]; exact pT,?_,?_⟩
   ·rcases hd with ⟨e1,_,_,_⟩ | ⟨e1,_⟩
    ·rintro i ⟨a,ha,rfl⟩; rw [e1] at ha; cases ha; show _<=b; omega
    ·intro i hi; have:=e1 i hi; omega
   ·rcases hd with ⟨_,_,_,k⟩ | ⟨_,k⟩
    ·exact k1.trans k λi hi ⟨a,ha,lP⟩=>by cases ha; have rN:b=i:=lP; omega
    ·exact k1.ak k
def qU:List (List Int)->Int->List Int
 | [],_=>[]
 | c :: cs,r=>if r=0 then c else qU cs (r - (c.length+1))
theorem Rj (c:List Int) (cs:List (List Int)) (k:Nat):off (c :: cs) (k+1)=c.length+1+off cs k:=by
 unfold off words;rw [List.take_succ_cons,List.flatMap_cons,List.length_append];simp [cw]
theorem ud:∀(cs:List (List Int)) (k:Nat) (c:List Int),cs[k]?=some c->qU cs (off cs k)=c
 | [],k,c,h=>by simp at h
 | c0 :: cs,0,c,h=>by
  have:c0=c:=by simpa using h
  subst this;unfold qU;rw [if_pos (by simp [off,words])]
 | c0 :: cs,k+1,c,h=>by
  unfold qU;rw [Rj,if_neg (by omega)];have:(((c0.length+1+off cs k:Nat):Int) - ((c0.length:Int)+1))=(off cs k:Nat):=by omega
  rw [this];exact ud cs k c (by simpa using h)
def gW (A:Ar) (r:Int):List Int:=if r∈A.live then qU A.cs r else []
theorem Ki {w w':World} {A:Ar} {r:Int} {v:Value} (h:F_ w A r v w'):∃p c ok,v=.tuple #[.slice p (gW A r).length c,.bool ok]/\bR w' 3 1 p (gW A r).length c ((gW A r).map I)/\(∀i,ob p i->w.heap.size<=i)/\af aq w w':=by
 rcases h with ⟨h1,rfl,hk⟩ | ⟨k,c,p,cc,h1,h2,h3,rfl,hO,hp,hk⟩
 ·have:gW A r=[]:=by unfold gW; rw [if_neg h1]
  rw [this];exact ⟨none,0,false,rfl,bR.nil _ _ _,(λi ⟨a,hh,_⟩=>by cases hh),hk⟩
 ·have:gW A r=c:=by unfold gW; rw [if_pos h1,h2]; exact ud _ _ _ h3
  rw [this];exact ⟨p,cc,true,rfl,hO,hp,hk⟩
def kC (S:ES) (e:E):En:=⟨e.lit,e.lv,if 0<=e.rs then gW S.ar e.rs else []⟩
def cB (S:ES):List En:=S.R.map (kC S)
theorem yz {n:Nat} {R:List E} {L:List Int} (h:St n R L) {e:E} (he:e∈R):jO R e.lit.natAbs=some e:=by
 unfold jO;cases hf:R.find? (λx=>x.lit.natAbs==e.lit.natAbs) with
 | none=>rw [List.find?_eq_none] at hf; exact absurd (by simp) (hf e he)
 | some x=>
  have h1:=List.mem_of_find?_eq_some hf;have h2:=List.find?_some hf;simp only [beq_iff_eq] at h2;have hn:=h.nodup;obtain ⟨i,hi,rfl⟩:=List.getElem_of_mem he;obtain ⟨j,hj,rfl⟩:=List.getElem_of_mem h1;rw [List.nodup_iff_pairwise_ne,List.pairwise_iff_getElem] at hn;rcases Nat.lt_trichotomy i j with oa | rfl | oa
  ·have:=hn i j (by simpa using hi) (by simpa using hj) oa;simp only [List.getElem_map] at this;exact absurd h2.symm this
  ·rfl
  ·have:=hn j i (by simpa using hj) (by simpa using hi) oa;simp only [List.getElem_map] at this;exact absurd h2 this
theorem Kj {n:Nat} {R:List E} {L:List Int} (h:St n R L) {e:E} (he:e∈R):gj n R (e.lit.natAbs:Int)=e.lv/\ij n R (e.lit.natAbs:Int)=e.rs:=by
 have ho:=gN (h.own e he);have wA:bW n (e.lit.natAbs:Int)=true:=CF ⟨by have:=ho.1; omega,by omega,by have:=ho.2.1; have:=ho.2.2; omega⟩;have h1:(decide (1<=(e.lit.natAbs:Int))&&bW n (e.lit.natAbs:Int))=true:=by
  rw [wA,decide_eq_true (by have:=ho.1; omega)]; rfl
 unfold gj ij;rw [if_pos h1,Int.natAbs_natCast,yz h he];exact ⟨rfl,by rw [if_pos h1]⟩
section
variable {ex:Nat->Prop} {w:World} {b:Nat} {o:Nat->Int} {h:Hs} {S:ES}
theorem Vy (hR:Rp ex w b o h S) {e:E} (he:e∈S.R) (hw:(words S.ar.cs).length<=17592186044416) :
  Calls Tryz.prog 138 #[Pt b,I e.lit,.func (.func 139) #[Pt h.st] #[]] w λee w'=>∃p n c,ee=.returned (.agg #[I e.lit,I e.lv,.slice p n c])/\cQ w' p n (kC S e).rs/\(∀i,ob p i->w.heap.size<=i/\i<w'.heap.size)/\af aq w w':=by
 refine (HZ (some ⟨b,0,none⟩) e.lit (.func (.func 139) #[Pt h.st] #[]) w (λv w'=>∃p n c,v=.agg #[I e.lit,I e.lv,.slice p n c]/\cQ w' p n (kC S e).rs/\(∀i,ob p i->w.heap.size<=i/\i<w'.heap.size)/\af aq w w') ?_).mono λee w' ⟨v,uU,p,n,c,hv,hk⟩=>⟨p,n,c,by rw [uU,hv],hk⟩
 unfold aeN;have dS:=hR.nv;have iL:=hR.tr.st;have sH:=gN (iL.own e he);obtain ⟨el,er⟩:=Kj iL he;refine aD λb2 w1 rN bH k1=>?_;have z1:=k1.size;refine az D_ (Trail.w_ e.lit w1 (by have:=sH.2.1; omega)) λee w2 ⟨uU,hw2⟩=>⟨_,uU,?_⟩
 subst hw2;have ev:(if 1<=e.lit.natAbs/\e.lit.natAbs<=1048576 then (e.lit.natAbs:Int) else 0)=e.lit.natAbs:=if_pos ⟨by have:=sH.1; omega,by have:=sH.2.1; have:=sH.2.2; omega⟩;rw [ev];have iM:=hR.aa k1;refine iM.uM (az JA (iM.tr.yj _ (by omega)) λee w3 ⟨uU,k3⟩=>⟨_,uU,?_⟩);rw [el];have Vz:=bH.aa k3;have gQ:=k1.ak k3;have z3:=k3.size;refine aD λqt w4 afI CM k4=>?_;have lq:=gQ.ak k4;have Ld:b2<w3.heap.size:=Vz.lt;have afJ:=Vz.aa k4;have z4:=k4.size;have big:∀{W W':World},af aq w W->af (One qt) W W'->af aq w W':=λhk gq=>hk.trans gq λi hi hh=>by have:i=qt:=hh; omega
 rw [ag,ag,ag];refine aG CM (by simp) rfl λw5 oe k5 z5=>?_;refine aG oe (by simp) rfl λw6 rI k6 z6=>?_;refine aG rI (by simp) rfl λw7 mU k7 z7=>?_;have k47:af (One qt) w4 w7:=(k5.trans k6 λ_ _ h=>h).trans k7 λ_ _ h=>h;have kz:=big lq k47;have hR7:=hR.aa kz;have afK:b_ w7 b2 _ 175:=afJ.ax k47 λhh=>by have:b2=qt:=hh; omega
 refine ⟨λ_ W=>∃p n c,b_ W qt [I e.lit,I e.lv,.slice p n c] 175/\b_ W b2 [I 0,I 0,.slice none 0 0] 175/\cQ W p n (kC S e).rs/\(∀i,ob p i->w.heap.size<=i/\i≠b2/\i≠qt/\i<W.heap.size)/\af aq w W,?_,?_⟩
 ·refine hR7.uM (az ade (hR7.tr.reason _ (by omega)) λee w9 ⟨uU,k9⟩=>⟨_,uU,?_⟩);rw [er];have ta:=kz.ak k9;by_cases hr:0<=e.rs
  ·have ee1:(kC S e).rs=gW S.ar e.rs:=by unfold kC; rw [if_pos hr]
   rw [ee1];refine aX (decide_eq_true hr) (bU.dP ?_);have hR9:=hR.aa ta;refine az Xe (mT.Xf hR9.ar hw e.rs) λee cK ⟨v,uU,aa9⟩=>?_;obtain ⟨p,c,ok,rfl,hO,hp,fD⟩:=Ki aa9;refine ⟨p,_,c,ok,uU,?_⟩;rw [ag];have afL:=(mU.aa k9).aa fD;refine aG afL (by simp) rfl λdB E4 gF z11=>?_;have z7':=k47.size;have z9:=k9.size;have pne:∀i,ob p i->w.heap.size<=i/\i≠b2/\i≠qt/\i<dB.heap.size:=λi hi=>by
    have h1:=hp i hi;have h2:=ta.size;have h3:=mU.lt;have h4:=hO.lt i hi;exact ⟨by omega,by omega,by omega,by omega⟩
   refine ⟨p,_,c,E4,((afK.aa k9).aa fD).ax gF λhh=>by have:b2=qt:=hh; omega,?_,pne,big (ta.ak fD) gF⟩;have:=aL hO;exact this.ax gF λi hi hh=>(pne i hi).2.2.1 hh
  ·have ee1:(kC S e).rs=[]:=by unfold kC; rw [if_neg hr]
   rw [ee1];exact aT (decide_eq_false hr) ⟨none,0,0,mU.aa k9,afK.aa k9,⟨rfl,λi x hx=>by simp at hx⟩,(λi ⟨a,hh,_⟩=>by cases hh),ta⟩
 rintro ⟨⟩ w8 ⟨p,n,c,E4,alg,dm,hp,k8⟩;dsimp only;refine ah (E4.cell 0) (ah (E4.cell 1) (au (E4.cell 2) ?_));refine aG alg (by simp) rfl λdF qH fF z12=>?_;refine aG qH (by simp) rfl λeA VA aba z13=>?_;refine aG VA (by simp) rfl λeG abb alh z14=>?_;refine ah (abb.cell 0) (ah (abb.cell 1) (au (abb.cell 2) ?_));have kk:af (One b2) w8 eG:=(fF.trans aba λ_ _ h=>h).trans alh λ_ _ h=>h;refine ⟨p,n,c,rfl,dm.ax kk λi hi hh=>(hp i hi).2.1 hh,λi hi=>⟨(hp i hi).1,by have:=(hp i hi).2.2.2; have:=kk.size; omega⟩,k8.trans kk λi hi hh=>by have:i=b2:=hh; omega⟩
end
def u0 (x:En×Sl):List Value:=[I x.1.lit,I x.1.dM,sv x.2]
theorem abc {w:World} {p:Option Addr} {n c:Nat} {xs:List (En×Sl)} (hO:bR w 175 3 p n c (xs.flatMap u0)) (hr:∀x∈xs,cQ w x.2.1 x.2.2.1 x.1.rs):mF w p n (xs.map λx=>x.1):=by
 have hl:=hO.len;have kI:∀(xs:List (En×Sl)),(xs.flatMap u0).length=xs.length*3:=λxs=>by
  induction xs with
  | nil=>rfl
  | cons x xs ih=>rw [List.flatMap_cons,List.length_append,ih,List.length_cons]; simp [u0]; omega
 rw [kI] at hl;refine ⟨by rw [List.length_map]; omega,λi y hy=>?_⟩;rw [List.getElem?_map] at hy;cases hx:xs[i]? with
 | none=>rw [hx] at hy; cases hy
 | some x=>
  rw [hx] at hy; injection hy with hy; subst hy;have hi:=(List.getElem?_eq_some_iff.1 hx).1;have yx:∀(xs:List (En×Sl)) (i:Nat) (x:En×Sl) (k:Nat),xs[i]?=some x->k<3->(xs.flatMap u0)[i*3+k]?=(u0 x)[k]?:=λxs=>by
   induction xs with
   | nil=>intro i x k h; simp at h
   | cons y ys ih=>
    intro i x k h hk;rw [List.flatMap_cons];cases i with
    | zero=>
     have:y=x:=by simpa using h
     subst this;rw [Nat.zero_mul,Nat.zero_add,List.getElem?_append_left (by simp [u0]; omega)]
    | succ i=>
     have h':ys[i]?=some x:=by simpa using h
     have e3:(u0 y).length=3:=rfl;rw [List.getElem?_append_right (by rw [e3]; omega),e3,<-ih i x k h' hk];congr 1; omega
  have h3:=hr x (List.mem_of_getElem? hx);rcases hO with ⟨_,hn,_,_⟩ | ⟨bb,cs,hpb,hB,h1,h2,h4,h5⟩
  ·omega
  ·have hO:bR w 175 3 (some ⟨bb,0,none⟩) n c (xs.flatMap u0):=Or.inr ⟨bb,cs,rfl,hB,h1,h2,h4,h5⟩;have cell:∀k v,k<3->(u0 x)[k]?=some v->w.cell? (((⟨bb,0,none⟩:Addr).add (i*3)).add k)=some v:=λk v hk hv=>by
    rw [ag,ag,Nat.zero_add,hO.cell _ (by omega),yx xs i x k hx hk,hv]
   exact ⟨⟨bb,0,none⟩,x.2.1,x.2.2.1,x.2.2.2,hpb,cell 0 _ (by omega) rfl,cell 1 _ (by omega) rfl,cell 2 _ (by omega) rfl,h3⟩
theorem zp {ex:Nat->Prop} {w:World} {b:Nat} {o:Nat->Int} {h:Hs} {S:ES} (hR:Rp ex w b o h S) (hw:(words S.ar.cs).length<=17592186044416) :
  Calls Tryz.prog 113 #[Pt b] w λe w'=>∃p c,(cB S).length<=c/\e=.returned (.slice p (cB S).length c)/\mF w' p (cB S).length (cB S)/\(∀i,ob p i->w.heap.size<=i)/\af aq w w':=by
 refine (HL (some ⟨b,0,none⟩) w (λv w'=>∃p c,(cB S).length<=c/\v=.slice p (cB S).length c/\mF w' p (cB S).length (cB S)/\(∀i,ob p i->w.heap.size<=i)/\af aq w w') ?_).mono λe w' ⟨v,he,p,c,hc,hv,hk⟩=>⟨p,c,hc,by rw [he,hv],hk⟩
 unfold aey;have AS:=aO hR.oo;rw [List.length_map] at AS;have XI:=hR.tr.small;refine ay (au (x:=h.oo.1) (n:=h.oo.2.1) (c:=h.oo.2.2) (by rw [ag]; exact hR.self.cell 3) ?_);refine bX (λs W=>∃(i:Nat) (xs:List (En×Sl)),s.2.1=(i:Int)/\i<=S.R.length/\(xs.map λx=>x.1)=(S.R.take i).map (kC S)/\bR W 175 3 s.1.1 s.1.2.1 s.1.2.2 (xs.flatMap u0)/\(∀j,ob s.1.1 j->w.heap.size<=j)/\(∀x∈xs,cQ W x.2.1 x.2.2.1 x.1.rs/\∀j,ob x.2.1 j->w.heap.size<=j/\j<W.heap.size/\¬ob s.1.1 j)/\af aq w W) (λs _=>(S.R.length - s.2.1).toNat)
  ⟨0,[],rfl,Nat.zero_le _,rfl,bR.nil _ _ _,(λj ⟨a,hh,_⟩=>by cases hh),(λx hx=>by cases hx),af.refl _ _⟩ ?_
 rintro ⟨⟨sp,sn,sc⟩,i',⟨⟩⟩ W ⟨i,xs,rfl,hi,xI,hO,u9,Rk,kW⟩;dsimp only at hO u9 Rk ⊢;have kI:∀(xs:List (En×Sl)),(xs.flatMap u0).length=xs.length*3:=λxs=>by
  induction xs with
  | nil=>rfl
  | cons x xs ih=>rw [List.flatMap_cons,List.length_append,ih,List.length_cons]; simp [u0]; omega
 have D8:xs.length=i:=by
  have:=congrArg List.length xI;simp only [List.length_map,List.length_take] at this; omega
 have U6:sn=i:=by have:=hO.len; rw [kI] at this; omega
 refine aF (λaM=>?_) λbL=>?_
 ·have aM:i<S.R.length:=by have:(i:Int)<(h.oo.2.1:Int):=by simpa using aM
                           omega
  rw [aA i (by omega)];obtain ⟨e,he⟩:=bg aM;have pV:=hR.aa kW;have hoo:=pV.oo;refine pV.oo.ix (by omega) (by omega) λbq CH=>?_;rw [CH] at hoo;refine ah (x:=e.lit) (by rw [hoo.cell _ (by omega),Int.toNat_natCast,Nat.mul_one,List.getElem?_map,List.getElem?_map,he]; rfl) (ay (cN (x:=some ⟨h.st,0,none⟩) (by rw [ag]; exact pV.self.cell 1) ?_));refine az aeO (Vy pV (List.mem_of_getElem? he) hw) λee w2 ⟨p,n,c,uU,dm,hp,k2⟩=>⟨_,_,p,n,c,uU,?_⟩
  refine aD λGb w3 afM pO k3=>?_;have uI:=k2.ak k3;have z2:=k2.size;have z3:=k3.size;have zW:=kW.size;have hN:ql w3 3 (some ⟨Gb,0,none⟩) 1 1 (u0 (kC S e,(p,n,c))):=Or.inr ⟨_,rfl,rfl,λj u hu=>by
   rw [ag,Nat.zero_add,pO.cell]; exact hu⟩
  refine fI (e:=175) (sz:=3) (z:=.agg #[I 0,I 0,.slice none 0 0]) (B:=40) Tryz.underlying173 (by kernel_rfl) rfl (by omega) (hO.aa uI) hN (λu hu=>?_) (by simp only [maxLen]; omega) (by omega) λp' c' w4 uA hd4=>?_
  ·simp only [u0,List.mem_cons,List.mem_singleton,List.not_mem_nil,or_false] at hu;rcases hu with rfl | rfl | rfl<;>rfl
  have kk:af (ob sp) w3 w4:=by
   rcases hd4 with ⟨_,_,_,kk⟩ | ⟨_,kk⟩
   ·exact kk
   ·exact kk.none
  have hp':∀j,ob p' j->ob sp j\/w3.heap.size<=j:=λj hj=>by
   rcases hd4 with ⟨e,_,_,_⟩ | ⟨e,_⟩
   ·rw [e] at hj; exact Or.inl hj
   ·exact Or.inr (e j hj)
  have zk:=kk.size;refine ⟨⟨i+1,xs++[(kC S e,(p,n,c))],rfl,aM,?_,?_,?_,?_,?_⟩,by omega⟩
  ·rw [List.map_append,xI,cm he,List.map_append]; rfl
  ·rw [List.flatMap_append,List.flatMap_singleton]; exact uA
  ·intro j hj;rcases hp' j hj with h1 | h1
   ·exact u9 j h1
   ·omega
  ·intro x hx;rcases List.mem_append.1 hx with hx | hx
   ·obtain ⟨g1,g2⟩:=Rk x hx;refine ⟨(g1.ax uI λ_ _ h=>h).ax kk λj hj=>(g2 j hj).2.2,λj hj=>⟨(g2 j hj).1,by have:=(g2 j hj).2.1; omega,λhh=>?_⟩⟩;rcases hp' j hh with h1 | h1
    ·exact (g2 j hj).2.2 h1
    ·have:=(g2 j hj).2.1; omega
   ·simp only [List.mem_singleton] at hx;subst hx;have xG:∀j,ob p j->W.heap.size<=j/\j<w2.heap.size/\¬ob sp j:=λj hj=>⟨(hp j hj).1,(hp j hj).2,λhh=>?_⟩
    ·refine ⟨(dm.ax k3 λ_ _ h=>h).ax kk λj hj=>(xG j hj).2.2,λj hj=>⟨by have:=(xG j hj).1; omega,by have:=(xG j hj).2.1; omega,λhh=>?_⟩⟩;rcases hp' j hh with h1 | h1
     ·exact (xG j hj).2.2 h1
     ·have:=(xG j hj).2.1; omega
    ·have:=hO.lt j hh; have:=(hp j hj).1; omega
  ·exact (kW.ak uI).trans kk λj hj hh=>by have:=u9 j hh; omega
 ·have bL:i=S.R.length:=by have:¬(i:Int)<(h.oo.2.1:Int):=by simpa using bL
                           omega
  subst bL;rw [List.take_length] at xI;have e1:(xs.map λx=>x.1)=cB S:=xI;have:=abc hO λx hx=>(Rk x hx).1;rw [e1,U6] at this;have el:(cB S).length=S.R.length:=by unfold cB; rw [List.length_map]
  exact ⟨sp,sc,by have:=hO.le.1; omega,by rw [U6,el],by rw [el]; exact this,u9,kW⟩
theorem BB {ex:Nat->Prop} {w:World} {b:Nat} {o:Nat->Int} {h:Hs} {S:ES} (hR:Rp ex w b o h S) (hw:(words S.ar.cs).length<=17592186044416) :
  Calls Tryz.prog 113 #[Pt b] w λe w'=>∃p c,e=.returned (.slice p (cB S).length c)/\mF w' p (cB S).length (cB S)/\(∀i,ob p i->w.heap.size<=i)/\af aq w w':=
 (zp hR hw).mono λe w' ⟨p,c,_,h⟩=>⟨p,c,h⟩
end bp
namespace Vc
open Go Go.ChangeShapes Go.WideShapes Go.ChangeAt Go.RowKit
section
variable {H:Type} {enc:TypeId×Value->H} {P:Program} {w:World}
end
theorem zq {P:Nat->Prop} (h:∃n,P n):∃m,P m/\∀k,P k->m<=k:=by
 obtain ⟨n,hn⟩:=h;induction n using Nat.strongRecOn with
 | ind n ih=>
  by_cases hk:∃k,k<n/\P k
  ·obtain ⟨k,h1,h2⟩:=hk;exact ih k h1 h2
  ·exact ⟨n,hn,λk hp=>Nat.le_of_not_lt λaM=>hk ⟨k,aM,hp⟩⟩
open Classical in
theorem Rl {G σ:Type} {body:σ->World->(σ->World->Prop)->Prop} {s:σ} {w:World} (I:G->σ->World->Prop) (μ:G->σ->World->Nat) (g:G) (h0:I g s w)
  (h:∀g s w,I g s w->∀Q:σ->World->Prop,(∀g' s' w',I g' s' w'->μ g' s' w'<μ g s w->Q s' w')->body s w Q):lp body s w:=by
 let P:σ->World->Nat->Prop:=λs w m=>∃g,I g s w/\μ g s w=m;let ν:σ->World->Nat:=λs w=>if h:∃m,P s w m then Classical.choose (zq h) else 0;have hν:∀s w g,I g s w->P s w (ν s w)/\ν s w<=μ g s w:=λs w g hg=>by
  have he:∃m,P s w m:=⟨_,g,hg,rfl⟩
  have hs:=Classical.choose_spec (zq he);have e:ν s w=Classical.choose (zq he):=dif_pos he;rw [e];exact ⟨hs.1,hs.2 _ ⟨g,hg,rfl⟩⟩
 refine bX (λs w=>∃g,I g s w) ν ⟨g,h0⟩ ?_;rintro s w ⟨g,hg⟩;obtain ⟨⟨g1,hg1,he⟩,_⟩:=hν s w g hg;refine h g1 s w hg1 _ λg' s' w' hg' aM=>⟨⟨g',hg'⟩,?_⟩
 have:=(hν s' w' g' hg').2;omega
end Vc
namespace bt
open Go Vc T
structure LL (M:Nat->Prop) (w:World) (p:Option Addr) (n c:Nat) (hs:List Sl) (av:List (List Int)):Prop where
 own:bR w 59 1 p n c (hs.map sv)
 out:∀i,ob p i->M i
 len:av.length=n
 we:∀(i:Nat) (x:Sl) (es:List Int),hs[i]?=some x->av[i]?=some es->bR w 3 1 x.1 x.2.1 x.2.2 (es.map J)/\∀j,ob x.1 j->M j/\¬ob p j
section
variable {M M':Nat->Prop} {w w':World} {p:Option Addr} {n c:Nat} {hs:List Sl} {av:List (List Int)}
theorem LL.hl (h:LL M w p n c hs av):hs.length=n:=by have:=h.own.len; simpa using this
theorem LL.nil (M:Nat->Prop) (w:World):LL M w none 0 0 [] []:=⟨bR.nil _ _ _,λi ⟨a,h,_⟩=>(by cases h),rfl,λi x es h=>by simp at h⟩
theorem LL.ax {U:Nat->Prop} (h:LL M w p n c hs av) (hk:af U w w') (hu:∀i,M i->¬U i):LL M w' p n c hs av:=
 ⟨h.own.ax hk λi hi=>hu i (h.out i hi),h.out,h.len,λi x es h1 h2=>by
  obtain ⟨h3,h4⟩:=h.we i x es h1 h2;exact ⟨h3.ax hk λj hj=>hu j (h4 j hj).1,h4⟩⟩
theorem LL.aa (h:LL M w p n c hs av) (hk:af aq w w'):LL M w' p n c hs av:=h.ax hk λ_ _ h=>h
theorem LL.mono (h:LL M w p n c hs av) (hm:∀i,i<w.heap.size->M i->M' i):LL M' w p n c hs av:=
 ⟨h.own,λi hi=>hm i (h.own.lt i hi) (h.out i hi),h.len,λi x es h1 h2=>by
  obtain ⟨h3,h4⟩:=h.we i x es h1 h2;exact ⟨h3,λj hj=>⟨hm j (h3.lt j hj) (h4 j hj).1,(h4 j hj).2⟩⟩⟩
theorem LL.ix (h:LL M w p n c hs av) {i:Nat} (hi:i<n) {K:Addr->Prop} (hK:∀(a:Addr) (x:Sl) (es:List Int),hs[i]?=some x->av[i]?=some es->w.cell? a=some (sv x)->bR w 3 1 x.1 x.2.1 x.2.2 (es.map J)->(∀j,ob x.1 j->M j/\¬ob p j)->K a):cr p n (i:Int) 1 K:=by
 have hl:=h.hl;obtain ⟨x,hx⟩:=bg (show i<hs.length by omega);obtain ⟨es,oH⟩:=bg (show i<av.length by have:=h.len; omega);refine h.own.ix (by omega) (by omega) λb hb=>?_;rw [Int.toNat_natCast,Nat.mul_one];obtain ⟨h3,h4⟩:=h.we i x es hx oH;refine hK _ x es hx oH ?_ h3 h4;have hO:=h.own;rw [hb] at hO;rw [hO.cell _ (by omega),List.getElem?_map,hx]; rfl
theorem LL.app (h:LL M w p n c hs av) {x:Sl} {es:List Int} (hx:bR w 3 1 x.1 x.2.1 x.2.2 (es.map J)) (hM:∀j,ob x.1 j->M' j/\¬M j) (hMM:∀i,M i->M' i) (hn:n+1<=8796093022208)
  {b:Nat} (hB:b_ w b [sv x] 59) {K:Option Addr->Nat->Nat->World->Prop}
  (hK:∀p' c' w',LL (λi=>i<w'.heap.size/\(M' i\/w.heap.size<=i)) w' p' (n+1) c' (hs++[x]) (av++[es])->af M w w'->K p' (n+1) c' w') :
  ∃(p':Option Addr) (n' c':Nat),∃w':World,(Builtin.append_ #[22,22] 22 #[.slice p n c,.slice (some ⟨b,0,none⟩) 1 1]).run Tryz.prog w=.ok (.slice p' n' c') w'/\K p' n' c' w':=by
 have hl:=h.hl;have hc:=h.len;refine T7 (e:=59) (sz:=1) (z:=.slice none 0 0) (B:=24) Tryz.underlying22 (by kernel_rfl) rfl (by omega) h.own hB.kU (λu hu=>?_) (by simp only [maxLen]; omega) (by omega) λp' c' w' hO hd=>?_
 ·rw [List.mem_singleton.1 hu]; rfl
 have kk:af M w w':=by
  rcases hd with ⟨_,_,_,k'⟩ | ⟨_,k'⟩
  ·exact k'.mono λi _ hi=>h.out i hi
  ·exact k'.none
 have vP:=kk.size;have fresh:∀i,ob p' i->i<w'.heap.size:=hO.lt;refine hK p' c' w' ⟨by rw [List.map_append]; exact hO,λi hi=>⟨fresh i hi,?_⟩,by rw [List.length_append,hc]; rfl,λi y ys h1 h2=>?_⟩ kk
 ·rcases hd with ⟨e,_,_,_⟩ | ⟨e,_⟩
  ·rw [e] at hi; exact Or.inl (hMM i (h.out i hi))
  ·exact Or.inr (e i hi)
 have VB:∀j,j<w.heap.size->¬ob p j->¬ob p' j:=λj hj hn hi=>by
  rcases hd with ⟨e,_,_,_⟩ | ⟨e,_⟩
  ·rw [e] at hi; exact hn hi
  ·have:=e j hi; omega
 rcases Nat.lt_trichotomy i n with hi | hi | hi
 ·rw [List.getElem?_append_left (by omega)] at h1 h2;obtain ⟨h3,h4⟩:=h.we i y ys h1 h2;refine ⟨?_,λj hj=>⟨⟨by have:=h3.lt j hj; omega,Or.inl (hMM j (h4 j hj).1)⟩,VB j (h3.lt j hj) (h4 j hj).2⟩⟩;rcases hd with ⟨_,_,_,k'⟩ | ⟨_,k'⟩
  ·exact h3.ax k' λj hj hh=>(h4 j hj).2 hh
  ·exact h3.aa k'
 ·rw [List.getElem?_append_right (by omega),show i - hs.length=0 by omega] at h1;rw [List.getElem?_append_right (by omega),show i - av.length=0 by omega] at h2;simp only [List.getElem?_cons_zero,Option.some.injEq] at h1 h2;subst h1; subst h2;have np:∀j,ob x.1 j->¬ob p j:=λj hj hp=>(hM j hj).2 (h.out j hp);refine ⟨?_,λj hj=>⟨⟨by have:=hx.lt j hj; omega,Or.inl (hM j hj).1⟩,VB j (hx.lt j hj) (np j hj)⟩⟩;rcases hd with ⟨_,_,_,k'⟩ | ⟨_,k'⟩
  ·exact hx.ax k' λj hj hh=>np j hj hh
  ·exact hx.aa k'
 ·rw [List.getElem?_eq_none (by simp; omega)] at h1; cases h1
theorem LL.set (h:LL M w p n c hs av) {i:Nat} (hi:i<n) {x:Sl} {es:List Int} (hx:bR w 3 1 x.1 x.2.1 x.2.2 (es.map J)) (hM:∀j,ob x.1 j->M' j/\¬M j) (hMM:∀i,M i->M' i)
  {K:World->Prop} (hK:∀w',LL M' w' p n c (hs.set i x) (av.set i es)->af M w w'->w'.heap.size=w.heap.size->K w'):cr p n (i:Int) 1 λa=>st w (a.add 0) (sv x) K:=by
 have hl:=h.hl;have hc:=h.len;refine h.own.ix (by omega) (by omega) λb hb=>?_;rw [Int.toNat_natCast,Nat.mul_one,ag,Nat.add_zero];have hO:=h.own;rw [hb] at hO;have kb:∀{w':World},af (One b) w w'->af M w w':=λk=>k.mono λj _ hj=>by
  have lW:j=b:=hj;rw [lW]; exact h.out b ⟨_,hb,rfl⟩
 have opb:∀j,ob p j↔j=b:=λj=>⟨λ⟨a,ha,hj⟩=>by rw [hb] at ha; injection ha with ha; subst ha; exact hj.symm,λe=>⟨_,hb,e.symm⟩⟩
 refine hO.st (by omega) rfl λw' pT hk Au=>hK w' ⟨?_,λj hj=>hMM j (h.out j hj),by rw [List.length_set]; exact hc,λj y ys h1 h2=>?_⟩ (kb hk) Au
 ·rw [hb,List.map_set]; exact pT
 ·rw [List.getElem?_set] at h1 h2;by_cases oa:i=j
  ·subst oa;rw [if_pos rfl] at h1 h2;rw [if_pos (by omega)] at h1 h2;injection h1 with h1; injection h2 with h2;subst h1; subst h2;exact ⟨hx.ax hk λj hj hh=>(hM j hj).2 (h.out j ((opb j).2 hh)),λj hj=>⟨(hM j hj).1,λhp=>(hM j hj).2 (h.out j hp)⟩⟩
  ·rw [if_neg oa] at h1 h2;obtain ⟨h3,h4⟩:=h.we j y ys h1 h2;exact ⟨h3.ax hk λj hj hh=>(h4 j hj).2 ((opb j).2 hh),λj hj=>⟨hMM j (h4 j hj).1,(h4 j hj).2⟩⟩
theorem LL.cut (h:LL M w p n c hs av) {m:Nat} (hm:m<=n):LL M w p m c (hs.take m) (av.take m):=
 ⟨by have:=h.own.cut hm; rw [Nat.mul_one,<-List.map_take] at this; exact this,h.out,by rw [List.length_take,h.len]; omega,λi x es h1 h2=>by
  rw [List.getElem?_take] at h1 h2;split at h1
  ·rename_i aM;rw [if_pos aM] at h2;exact h.we i x es h1 h2
  ·cases h1⟩
end
end bt
namespace bp
open Go Vc T
open bt (cQ aL aA bg aO aB Sl sv mE LL)
open dw (fl bx qG cZ cD idx bJ cO cH)
open mT (Ar AR words off cw F_)
open Trail (TI Tr St fR gj ij bW cR eY cL upto bZ dK Open jO)
open bU (En mF)
def iC (t:Int):Prop:=t=-8\/t=-10\/t=-11
def tw (S:ES) (dr:Bool) (cs:List Int):ES:={S with log:=S.log++[(dr,cs)]}
theorem wB (xs:List ((Bool×List Int)×Sl)):(xs.flatMap ef).length=xs.length*2:=by
 induction xs with
 | nil=>rfl
 | cons x xs ih=>rw [List.flatMap_cons,List.length_append,ih,List.length_cons]; simp [ef]; omega
theorem VC {ex:Nat->Prop} {w:World} {b:Nat} {o:Nat->Int} {h:Hs} {S:ES} (hR:Rp ex w b o h S) {dr:Bool} {p:Option Addr} {n c:Nat} {cs:List Int} (hC:cQ w p n cs) (hn:n<=8796093022208) (zu:S.log.length<=1099511627776) :
  Calls Tryz.prog 230 #[Pt h.bk,.agg #[.bool dr,.slice p n c]] w λe w'=>e=.returned (.tuple #[])/\Nx iC ex w b o h (tw S dr cs) w':=by
 refine (HS (some ⟨h.bk,0,none⟩) dr p n c w (λv w'=>v=.tuple #[]/\Nx iC ex w b o h (tw S dr cs) w') ?_).mono λe w' ⟨v,he,hv,hk⟩=>⟨by rw [he,hv],hk⟩
 unfold aeG;refine aD λb2 w1 rN bH k1=>?_;have Gg:=k1.drew;have z1:=Gg.size;have dm:=hR.aa Gg;have AV:b_ w1.drew b2 _ 99:=bH.aa (af.refl aq w1).drew;have lgc:∀{V:World} {K:Option Addr->Nat->Nat->Prop},b_ V h.bk [sv h.lg] 114->K h.lg.1 h.lg.2.1 h.lg.2.2->aZ V ((⟨h.bk,0,none⟩:Addr).add 0) K:=λ{V K} hB hK=>by
  rw [ag]; exact au (x:=h.lg.1) (n:=h.lg.2.1) (c:=h.lg.2.2) (hB.cell 0) hK
 refine ay (lgc dm.bk (dX (x:=dr) (AV.cell 0) (au (x:=p) (n:=n) (c:=c) (AV.cell 1) ?_)));refine az Ec (uZ (hC.ax Gg λ_ _ h=>h) hn) λe w2 ⟨v,he,cp,cc,hv,hO,u9,k2⟩=>?_;subst hv;have fF:=Gg.ak k2;have z12:=fF.size;have iM:=hR.aa fF;refine ⟨cp,cs.length,cc,he,dX (x:=dr) ((AV.aa k2).cell 0) rfl,lgc iM.bk rfl,?_⟩;refine aD λqt w3 afI CM k3=>?_;have gQ:=fF.ak k3;have z3:=k3.size;have oD:=hR.aa gQ;refine ⟨lgc oD.bk rfl,?_⟩;have abd:=hR.lg.len;rw [wB,List.length_zip,hR.AP,Nat.min_self] at abd;have hN:ql w3 2 (some ⟨qt,0,none⟩) 1 1 (ef ((dr,cs),(cp,cs.length,cc))):=Or.inr ⟨_,rfl,rfl,λj u hu=>by
  rw [ag,Nat.zero_add,CM.cell]; exact hu⟩
 have F9:=hO.aa k3;refine fI (e:=99) (sz:=2) (z:=.agg #[.bool false,.slice none 0 0]) (B:=32) Tryz.underlying31 (by kernel_rfl) rfl (by omega) oD.lg hN (λu hu=>?_) (by simp only [maxLen]; omega) (by omega) λp' c' w4 uA hd4=>?_
 ·simp only [ef,List.mem_cons,List.not_mem_nil,or_false] at hu;rcases hu with rfl | rfl<;>rfl
 have kk:af (λj=>o j=-10) w3 w4:=by
  rcases hd4 with ⟨_,_,_,kk⟩ | ⟨_,kk⟩
  ·exact kk.mono λj _ hj=>hR.xm j hj
  ·exact kk.none
 have z4:=kk.size;have pc:∀j,ob p' j->(j<w.heap.size/\o j=-10)\/w3.heap.size<=j:=λj hj=>by
  rcases hd4 with ⟨e,_,_,_⟩ | ⟨e,_⟩
  ·rw [e] at hj; exact Or.inl ⟨hR.lg.lt j hj,hR.xm j hj⟩
  ·exact Or.inr (e j hj)
 have ali:b_ w4 h.bk [sv h.lg] 114:=oD.bk.ax kk λhh=>by have h1:o h.bk=-10:=hh; rw [hR.uK] at h1; exact absurd h1 (by decide)
 refine ay ?_;rw [ag];refine aG ali (by simp) rfl λw5 alj k5 z5=>⟨rfl,?_⟩
 have alk:=hR.bk.lt;have bI:af (λj=>iC (o j)) w w5:=((gQ.none (S:=λj=>iC (o j))).trans kk λj _ hh=>Or.inr (Or.inl hh)).trans k5 λj _ hh=>by
  have hj:j=h.bk:=hh;show iC (o j);rw [hj,hR.uK]; exact Or.inl rfl
 have z5':w3.heap.size<=w5.heap.size:=by omega
 have lo:∀{j:Nat},o j≠ -9->j<w.heap.size:=λ{j} hj=>by
  apply Classical.byContradiction;intro hn;exact hj (hR.wj j (by omega))
 have nT:∀{t:Int},t≠ -8->t≠ -10->t≠ -11->¬iC t:=λa b c hh=>by rcases hh with h | h | h; exact a h; exact b h; exact c h
 have X8:∀j,ob cp j->w.heap.size<=j/\j<w3.heap.size:=λj hj=>⟨by have:=u9 j hj; omega,F9.lt j hj⟩
 let o':Nat->Int:=λj=>open Classical in if j<w.heap.size then o j else if ob cp j then -11 else if ob p' j then -10 else -9;have e0:∀{j:Nat} {t:Int},t≠ -9->o j=t->o' j=t:=λ{j} {t} bz hj=>by
  show (open Classical in if j<w.heap.size then o j else _)=t;rw [if_pos (lo (by rw [hj]; exact bz))]; exact hj
 have Eh:=hR.Te (T:=iC) bI (nT (by decide) (by decide) (by decide));have xq:=hR.s_ (T:=iC) bI (nT (by decide) (by decide) (by decide)) (nT (by decide) (by decide) (by decide));have k35:∀j,w.heap.size<=j->j<w3.heap.size->¬(o j=-10)/\j≠h.bk:=λj h1 h2=>⟨by rw [hR.wj j h1]; decide,by omega⟩
 have alm:∀(i:Nat) (x:Bool×List Int) (y:Sl),S.log[i]?=some x->h.gl[i]?=some y->cQ w5 y.1 y.2.1 x.2:=λi x y hx hy=>by
  obtain ⟨g1,g2⟩:=hR.gl i x y hx hy;have bz:∀j,ob y.1 j->¬(o j=-10)/\j≠h.bk:=λj hj=>⟨by rw [(g2 j hj).1]; decide,λe=>by have:=(g2 j hj).1; rw [e,hR.uK] at this; exact absurd this (by decide)⟩
  exact ((g1.ax gQ λ_ _ h=>h).ax kk λj hj=>(bz j hj).1).ax k5 λj hj hh=>(bz j hj).2 hh
 have aln:cQ w5 cp cs.length cs:=((aL F9).ax kk λj hj=>(k35 j (X8 j hj).1 (X8 j hj).2).1).ax k5 λj hj hh=>(k35 j (X8 j hj).1 (X8 j hj).2).2 hh;refine ⟨o',{h with lg:=(p',h.lg.2.1+1,c'),gl:=h.gl++[(cp,cs.length,cc)]},⟨fZ (T:=iC) hR.self hR.cC bI (nT (by decide) (by decide) (by decide)),e0 (by decide) hR.cC,jI Eh (λi hi=>⟨e0 (by decide) hi.1,hi.2⟩) (λi hi=>hi.2),Rp.UR (h:=h) (S:=S) (T:=iC) hR bI (nT (by decide) (by decide) (by decide)),λj hj=>e0 (by decide) (hR.Ak j hj),
  ct (T:=iC) hR.oo hR.sZ bI (nT (by decide) (by decide) (by decide)),λj hj=>e0 (by decide) (hR.sZ j hj),ct (T:=iC) hR.out hR.jQ bI (nT (by decide) (by decide) (by decide)),λj hj=>e0 (by decide) (hR.jQ j hj),hR.Bv,hR.CB,
  Rp.zg (h:=h) (S:=S) (T:=iC) hR bI (λi hi=>⟨hi,nT (by omega) (by omega) (by omega)⟩),λi x hx j hj=>⟨e0 (by omega) (Rp.jS (h:=h) (S:=S) (T:=iC) hR bI i x hx j hj).1,(Rp.jS (h:=h) (S:=S) (T:=iC) hR bI i x hx j hj).2⟩,
  ct (T:=iC) hR.sh hR.wg bI (nT (by decide) (by decide) (by decide)),λj hj=>e0 (by decide) (hR.wg j hj),ct (T:=iC) hR.le hR.wh bI (nT (by decide) (by decide) (by decide)),λj hj=>e0 (by decide) (hR.wh j hj),
  alj,e0 (by decide) hR.uK,?_,λj hj=>?_,by show (h.gl++[_]).length=(S.log++[_]).length; rw [List.length_append,List.length_append,hR.AP]; rfl,λi x y hx hy=>?_,
  λi d' e_=>by
   obtain ⟨h1,h2,h3,h4⟩:=xq i d' e_;exact ⟨h1,e0 (by decide) h2,h3,λj hj=>⟨e0 (by decide) (h4 j hj).1,(h4 j hj).2⟩⟩,hR.inj,λj hj=>?_⟩,λj hj=>if_pos hj,bI,rfl⟩
 ·show bR w5 99 2 p' (h.lg.2.1+1) c' (((S.log++[(dr,cs)]).zip (h.gl++[(cp,cs.length,cc)])).flatMap ef);rw [List.zip_append hR.AP.symm,List.flatMap_append];refine bR.ax (w:=w4) ?_ k5 λj hj hh=>?_
  ·have:=uA;rw [show ([(dr,cs)].zip [(cp,cs.length,cc)]).flatMap ef=ef ((dr,cs),(cp,cs.length,cc)) by simp];exact this
  ·have zj:j=h.bk:=hh;rcases pc j hj with h1 | h1
   ·rw [zj,hR.uK] at h1; exact absurd h1.2 (by decide)
   ·omega
 ·show (open Classical in if j<w.heap.size then o j else if ob cp j then -11 else if ob p' j then -10 else -9)=-10;rcases pc j hj with h1 | h1
  ·rw [if_pos h1.1]; exact h1.2
  ·rw [if_neg (by omega),if_neg λhh=>by have:=(X8 j hh).2; omega,if_pos hj]
 ·have jG:(S.log++[(dr,cs)])[i]?=some x:=hx;have sk:(h.gl++[(cp,cs.length,cc)])[i]?=some y:=hy;by_cases hi:i<S.log.length
  ·rw [List.getElem?_append_left hi] at jG;rw [List.getElem?_append_left (by rw [hR.AP]; exact hi)] at sk;exact ⟨alm i x y jG sk,λj hj=>⟨e0 (by decide) ((hR.gl i x y jG sk).2 j hj).1,by have:=((hR.gl i x y jG sk).2 j hj).2; omega⟩⟩
  ·have JI:i=S.log.length:=by
    have:=(List.getElem?_eq_some_iff.1 jG).1;rw [List.length_append] at this;simp only [List.length_singleton] at this; omega
   subst JI;rw [List.getElem?_append_right (Nat.le_refl _),Nat.sub_self] at jG;rw [List.getElem?_append_right (by rw [hR.AP]; exact Nat.le_refl _),hR.AP,Nat.sub_self] at sk;simp only [List.getElem?_cons_zero,Option.some.injEq] at jG sk;subst jG; subst sk;refine ⟨aln,λj hj=>⟨?_,by have:=(X8 j hj).2; omega⟩⟩;show (open Classical in if j<w.heap.size then o j else if ob cp j then -11 else if ob p' j then -10 else -9)=-11;rw [if_neg (by have:=(X8 j hj).1; omega),if_pos hj]
 ·show (open Classical in if j<w.heap.size then o j else if ob cp j then -11 else if ob p' j then -10 else -9)=-9;rw [if_neg (by omega),if_neg λhh=>by have:=(X8 j hh).2; omega,if_neg λhh=>by rcases pc j hh with h1 | h1; omega; have:=uA.lt j hh; omega]
def c7 (S:ES) (k:Nat):List Int:=((S.H[k]?).map λd=>d.ls).getD []
def aU (S:ES):List (List Int):=S.aC.map (c7 S)
theorem ML {ex:Nat->Prop} {w:World} {b:Nat} {o:Nat->Int} {h:Hs} {S:ES} (hR:Rp ex w b o h S) (hle:∀k∈S.aC,k<S.H.length) (pM:S.aC.length<=1099511627776) (Bg:∀(k:Nat) (d:Hd),S.H[k]?=some d->d.ls.length<=8796093022208) :
  Calls Tryz.prog 147 #[Pt b] w λe w'=>∃p n c hs,e=.returned (.slice p n c)/\LL (λi=>w.heap.size<=i) w' p n c hs (aU S)/\af aq w w':=by
 refine (HC (some ⟨b,0,none⟩) w (λv w'=>∃p n c hs,v=.slice p n c/\LL (λi=>w.heap.size<=i) w' p n c hs (aU S)/\af aq w w') ?_).mono λe w' ⟨v,he,p,n,c,hs,hv,hk⟩=>⟨p,n,c,hs,by rw [he,hv],hk⟩
 unfold ael;have Xd:=jJ hR.le;refine ay (au (x:=h.le.1) (n:=h.le.2.1) (c:=h.le.2.2) (by rw [ag]; exact hR.self.cell 6) ?_);refine bX (λs W=>∃(i:Nat) (hs:List Sl),s.2.1=(i:Int)/\i<=S.aC.length/\LL (λj=>w.heap.size<=j/\j<W.heap.size) W s.1.1 s.1.2.1 s.1.2.2 hs ((S.aC.take i).map (c7 S))/\af aq w W) (λs _=>(S.aC.length - s.2.1).toNat)
  ⟨0,[],rfl,Nat.zero_le _,LL.nil _ _,af.refl _ _⟩ ?_
 rintro ⟨⟨sp,sn,sc⟩,i',⟨⟩⟩ W ⟨i,hs,rfl,hi,hL,kW⟩;dsimp only at hL ⊢;have U6:sn=i:=by have:=hL.len; rw [List.length_map,List.length_take] at this; omega
 refine aF (λaM=>?_) λbL=>?_
 ·have aM:i<S.aC.length:=by have:(i:Int)<(h.le.2.1:Int):=by simpa using aM
                            omega
  rw [aA i (by omega)];obtain ⟨k,hk⟩:=bg aM;obtain ⟨d,hd⟩:=bg (hle k (List.mem_of_getElem? hk));have pV:=hR.aa kW;have hle:=pV.le;refine pV.le.ix (by omega) (by omega) λbq CH=>?_;rw [CH] at hle;refine cN (x:=some ⟨h.hb k,0,none⟩) (by rw [hle.cell _ (by omega),Int.toNat_natCast,Nat.mul_one,List.getElem?_map,hk]; rfl) ?_;obtain ⟨hB,_,dm,_⟩:=pV.held k d hd;have N1:=dm.len;have aoQ:=Bg k d hd;refine ay (au (x:=(h.hl k).1) (n:=(h.hl k).2.1) (c:=(h.hl k).2.2) (by rw [ag]; exact hB.cell 1) ?_);refine az Ec (uZ dm (by omega)) λe w2 ⟨v,he,cp,cc,hv,hO,u9,k2⟩=>?_;subst hv;refine ⟨cp,d.ls.length,cc,he,?_⟩;refine aD λEB w3 alo alp k3=>?_;have uI:=k2.ak k3;have z2:=k2.size;have z3:=k3.size;have zW:=kW.size;refine (hL.aa uI).app (x:=(cp,d.ls.length,cc)) (es:=d.ls) (M':=λj=>w.heap.size<=j) (hO.aa k3) (λj hj=>⟨by have:=u9 j hj; omega,λhh=>by have:=u9 j hj; omega⟩) (λj hj=>hj.1) (by omega) alp λp' c' w4 hL4 kk=>?_;have eH:c7 S k=d.ls:=by unfold c7; rw [hd]; rfl
  have z4:=kk.size;refine ⟨⟨i+1,hs++[(cp,d.ls.length,cc)],rfl,aM,?_,(kW.ak uI).trans kk λj hj hh=>by have:=hh.1; omega⟩,by omega⟩;have e1:(S.aC.take (i+1)).map (c7 S)=(S.aC.take i).map (c7 S)++[d.ls]:=by rw [cm hk,List.map_append,<-eH]; rfl
  rw [e1];exact hL4.mono λj hj hh=>⟨by rcases hh.2 with h | h; exact h; omega,hj⟩
 ·have bL:i=S.aC.length:=by have:¬(i:Int)<(h.le.2.1:Int):=by simpa using bL
                            omega
  subst bL;rw [List.take_length] at hL;exact ⟨sp,sn,sc,hs,rfl,hL.mono λj _ hj=>hj.1,kW⟩
theorem abe {ex:Nat->Prop} {w:World} {b:Nat} {o:Nat->Int} {h:Hs} {S:ES} (hR:Rp ex w b o h S):Calls Tryz.prog 75 #[Pt b] w λe w'=>e=.returned (.bool S.dead)/\w'=w:=by
 refine (Mv (some ⟨b,0,none⟩) w (λv w'=>v=.bool S.dead/\w'=w) ?_).mono λe w' ⟨v,he,hv,hk⟩=>⟨by rw [he,hv],hk⟩
 unfold V75;exact ay (dX (x:=S.dead) (by rw [ag]; exact hR.self.cell 11) ⟨rfl,rfl⟩)
end bp
namespace bp
open Go Vc T
open bt (cQ aL aA bg aO aB Sl sv mE LL)
open dw (fl bx qG cZ cD idx bJ cO cH)
open mT (Ar AR words off cw F_)
open Trail (TI Tr St fR gj ij bW cR eY cL upto bZ dK Open jO)
open bU (En mF)
abbrev AZ (t:Int):Prop:=t=-2
theorem Rp.afN {ex:Nat->Prop} {w w':World} {b:Nat} {o:Nat->Int} {h:Hs} {S:ES} (hR:Rp ex w b o h S) {A':Ar} {M':Nat->Prop} (hA:AR M' w' h.st A') (Bi:∀i,M' i->(o i=-2/\i<w.heap.size)\/w.heap.size<=i) (hk:af (λi=>o i=-2/\i<w.heap.size) w w') :
  Nx AZ ex w b o h {S with ar:=A'} w':=by
 have bI:af (λj=>AZ (o j)) w w':=hk.mono λj _ hh=>hh.1;have z:=hk.size;have lo:∀{j:Nat},o j≠ -9->j<w.heap.size:=λ{j} hj=>by
  apply Classical.byContradiction;intro hn;exact hj (hR.wj j (by omega))
 let o':Nat->Int:=λj=>open Classical in if j<w.heap.size then o j else if M' j then -2 else -9;have e0:∀{j:Nat} {t:Int},t≠ -9->o j=t->o' j=t:=λ{j} {t} bz hj=>by
  show (open Classical in if j<w.heap.size then o j else _)=t;rw [if_pos (lo (by rw [hj]; exact bz))]; exact hj
 have xq:=Rp.s_ (h:=h) (S:=S) (T:=AZ) hR bI (by decide) (by decide);have lX:=Rp.Tf (h:=h) (S:=S) (T:=AZ) hR bI (by decide);have no:∀i:Nat,¬AZ i:=λi hh=>by have jP:(i:Int)=-2:=hh; omega
 refine ⟨o',h,⟨fZ (T:=AZ) hR.self hR.cC bI (by decide),e0 (by decide) hR.cC,jI hA (λi hi=>⟨?_,hA.lt i hi⟩) (λi hi=>hi.2),Rp.UR (h:=h) (S:=S) (T:=AZ) hR bI (by decide),λj hj=>e0 (by decide) (hR.Ak j hj),
  ct (T:=AZ) hR.oo hR.sZ bI (by decide),λj hj=>e0 (by decide) (hR.sZ j hj),ct (T:=AZ) hR.out hR.jQ bI (by decide),λj hj=>e0 (by decide) (hR.jQ j hj),hR.Bv,hR.CB,
  Rp.zg (h:=h) (S:=S) (T:=AZ) hR bI (λi hi=>⟨hi,no i⟩),λi x hx j hj=>⟨e0 (by omega) (Rp.jS (h:=h) (S:=S) (T:=AZ) hR bI i x hx j hj).1,(Rp.jS (h:=h) (S:=S) (T:=AZ) hR bI i x hx j hj).2⟩,
  ct (T:=AZ) hR.sh hR.wg bI (by decide),λj hj=>e0 (by decide) (hR.wg j hj),ct (T:=AZ) hR.le hR.wh bI (by decide),λj hj=>e0 (by decide) (hR.wh j hj),
  fZ (T:=AZ) hR.bk hR.uK bI (by decide),e0 (by decide) hR.uK,ct (T:=AZ) hR.lg hR.xm bI (by decide),λj hj=>e0 (by decide) (hR.xm j hj),hR.AP,
  λi x y hx hy=>⟨(lX i x y hx hy).1,λj hj=>⟨e0 (by decide) ((lX i x y hx hy).2 j hj).1,((lX i x y hx hy).2 j hj).2⟩⟩,
  λi d' e_=>by
   obtain ⟨h1,h2,h3,h4⟩:=xq i d' e_;exact ⟨h1,e0 (by decide) h2,h3,λj hj=>⟨e0 (by decide) (h4 j hj).1,(h4 j hj).2⟩⟩,hR.inj,λj hj=>?_⟩,λj hj=>if_pos hj,bI,rfl⟩
 ·show (open Classical in if i<w.heap.size then o i else if M' i then -2 else -9)=-2;rcases Bi i hi with h1 | h1
  ·rw [if_pos h1.2]; exact h1.1
  ·rw [if_neg (by omega),if_pos hi]
 ·show (open Classical in if j<w.heap.size then o j else if M' j then -2 else -9)=-9;rw [if_neg (by omega),if_neg λhh=>by have:=hA.lt j hh; omega]
def eU (S:ES) (cs:List Int):ES:={S with ar:=⟨S.ar.cs++[cs],S.ar.live++[((words S.ar.cs).length:Int)]⟩}
theorem afO {ex:Nat->Prop} {w:World} {b:Nat} {o:Nat->Int} {h:Hs} {S:ES} (hR:Rp ex w b o h S) {p:Option Addr} {n c:Nat} {cs:List Int} (hC:cQ w p n cs) (hN:ql w 1 p n c (cs.map I)) (hn:n<=17592186044416) (hq:∀j,ob p j->0<n->o j≠ -2) (hf:∀x∈cs,fl x=true) (hw:(words S.ar.cs).length+n+1<=17592186044416) (hl:S.ar.cs.length+1<=17592186044416) (flag:Bool) :
  Calls Tryz.prog 63 #[Pt h.st,.slice p n c,.bool flag] w λe w'=>e=.returned (.tuple #[I ((words S.ar.cs).length:Nat),I 0])/\Nx AZ ex w b o h (eU S cs) w':=
 (mT.adE hR.ar hC hN hn (λj hj h0 hh=>hq j hj h0 hh.1) hf hw hl flag).mono λe w' ⟨he,M',hA⟩=>⟨he,hR.afN hA.ar hA.gr hA.kp⟩
def zv (S:ES) (r:Int):ES:={S with ar:=⟨S.ar.cs,S.ar.live.erase r⟩}
theorem afP {ex:Nat->Prop} {w:World} {b:Nat} {o:Nat->Int} {h:Hs} {S:ES} (hR:Rp ex w b o h S) (r:Int) :
  Calls Tryz.prog 181 #[Pt h.st,I r] w λe w'=>∃x,e=.returned (I x)/\Nx AZ ex w b o h (zv S r) w':=
 (mT.ZJ hR.ar r).mono λe w' hh=>by
  rcases hh with ⟨he,hn,hk⟩ | ⟨he,hm,M',hA⟩
  ·refine ⟨2,he,?_⟩;have:zv S r=S:=by unfold zv; rw [List.erase_of_not_mem hn]
   rw [this];exact (Nx.refl hR).aa hk
  ·exact ⟨0,he,hR.afN hA.ar hA.gr hA.kp⟩
section
variable {ex:Nat->Prop} {w w':World} {b:Nat} {o:Nat->Int} {h:Hs} {S:ES}
theorem Rp.Kk (hR:Rp ex w b o h S) {bb:Nat} {x:Sl} {d:Hd} (hB:b_ w bb [I d.at_,sv x,I d.e0,I d.e1,.bool d.gone] 127) (WM:o bb=-9) (hC:cQ w x.1 x.2.1 d.ls) (yw:∀j,ob x.1 j->o j=-9/\j≠bb/\j<w.heap.size)
  (pW:∀(i:Nat) (ids:List Nat),S.lists[i]?=some ids->∀k∈ids,k<S.H.length) (BC:∀k∈S.short,k<S.H.length) (hle:∀k∈S.aC,k<S.H.length) :
  ∃o' h',Rp ex w b o' h' {S with H:=S.H++[d]}/\(∀j,o' j=o j\/j=bb\/ob x.1 j)/\h'.hb S.H.length=bb/\(∀i,i<S.H.length->h'.hb i=h.hb i)/\h'.st=h.st/\h'.bk=h.bk:=by
 let o':Nat->Int:=λj=>open Classical in if j=bb then -12 else if ob x.1 j then -13 else o j;have hB':=hB.lt;have hT:Rp ex w b o' h S:=hR.tag (λj hj=>by
  show (open Classical in if j=bb then -12 else if ob x.1 j then -13 else o j)=o j;rw [if_neg (λe:j=bb=>hj (e ▸ WM)),if_neg λe=>hj (yw j e).1]) λj hj=>by
  show (open Classical in if j=bb then -12 else if ob x.1 j then -13 else o j)=-9;rw [if_neg (by omega),if_neg λe=>by have:=(yw j e).2.2; omega];exact hR.wj j hj
 let lP:Nat->Nat:=λi=>if i=S.H.length then bb else h.hb i;let jh:Nat->Sl:=λi=>if i=S.H.length then x else h.hl i;have hbe:∀i,i<S.H.length->lP i=h.hb i:=λi hi=>if_neg (by omega);have VD:∀i,i<S.H.length->jh i=h.hl i:=λi hi=>if_neg (by omega);have mp:∀ids:List Nat,(∀k∈ids,k<S.H.length)->(ids.map λk=>Pt (lP k))=ids.map λk=>Pt (h.hb k):=λids hi=>List.map_congr_left λk hk=>by rw [hbe k (hi k hk)]
 have obb:o' bb=-12:=if_pos rfl;refine ⟨o',{h with hb:=lP,hl:=jh},⟨hT.self,hT.cC,hT.ar,hT.tr,hT.Ak,hT.oo,hT.sZ,hT.out,hT.jQ,hT.Bv,hT.CB,λi y ids hy hi hn=>?_,hT.xT,?_,hT.wg,?_,hT.wh,hT.bk,hT.uK,hT.lg,hT.xm,hT.AP,hT.gl,λi d' e_=>?_,λi j hi hj he=>?_,hT.wj⟩,λj=>?_,if_pos rfl,hbe,rfl,rfl⟩
 ·show bR w _ 1 _ _ _ (ids.map λk=>Pt (lP k));rw [mp ids (pW i ids hi)];exact hT.we i y ids hy hi hn
 ·show bR w _ 1 _ _ _ (S.short.map λk=>Pt (lP k));rw [mp _ BC]; exact hT.sh
 ·show bR w _ 1 _ _ _ (S.aC.map λk=>Pt (lP k));rw [mp _ hle]; exact hT.le
 ·have Ti:(S.H++[d])[i]?=some d':=e_;by_cases hi:i<S.H.length
  ·rw [List.getElem?_append_left hi] at Ti;show b_ w (lP i) [I d'.at_,sv (jh i),_,_,_] _/\o' (lP i)=-12/\cQ w (jh i).1 (jh i).2.1 d'.ls/\∀j,ob (jh i).1 j->o' j=-13/\j<w.heap.size;rw [hbe i hi,VD i hi];exact hT.held i d' Ti
  ·have JI:i=S.H.length:=by
    have:=(List.getElem?_eq_some_iff.1 Ti).1;rw [List.length_append] at this;simp only [List.length_singleton] at this; omega
   subst JI;rw [List.getElem?_append_right (Nat.le_refl _),Nat.sub_self] at Ti;simp only [List.getElem?_cons_zero,Option.some.injEq] at Ti;subst Ti;show b_ w (lP S.H.length) [I d.at_,sv (jh S.H.length),_,_,_] _/\o' (lP S.H.length)=-12/\cQ w (jh S.H.length).1 (jh S.H.length).2.1 d.ls/\∀j,ob (jh S.H.length).1 j->o' j=-13/\j<w.heap.size;rw [show lP S.H.length=bb from if_pos rfl,show jh S.H.length=x from if_pos rfl];refine ⟨hB,obb,hC,λj hj=>⟨?_,(yw j hj).2.2⟩⟩;show (open Classical in if j=bb then -12 else if ob x.1 j then -13 else o j)=-13;rw [if_neg (yw j hj).2.1,if_pos hj]
 ·have cW:i<(S.H++[d]).length:=hi;have lW:j<(S.H++[d]).length:=hj;rw [List.length_append] at cW lW;simp only [List.length_singleton] at cW lW;have mR:lP i=lP j:=he;have jH:∀k,k<S.H.length->h.hb k≠bb:=λk hk e=>by
   obtain ⟨dk,hdk⟩:=bg hk;have:=(hR.held k dk hdk).2.1;rw [e,WM] at this; exact absurd this (by decide)
  by_cases h1:i<S.H.length<;>by_cases h2:j<S.H.length
  ·rw [hbe i h1,hbe j h2] at mR; exact hR.inj i j h1 h2 mR
  ·have e2:j=S.H.length:=by omega
   rw [hbe i h1,e2,show lP S.H.length=bb from if_pos rfl] at mR;exact absurd mR (jH i h1)
  ·have e1:i=S.H.length:=by omega
   rw [hbe j h2,e1,show lP S.H.length=bb from if_pos rfl] at mR;exact absurd mR.symm (jH j h2)
  ·omega
 ·show (open Classical in if j=bb then -12 else if ob x.1 j then -13 else o j)=o j\/_;by_cases h1:j=bb
  ·exact Or.inr (Or.inl h1)
  ·by_cases h2:ob x.1 j
   ·exact Or.inr (Or.inr h2)
   ·rw [if_neg h1,if_neg h2]; exact Or.inl rfl
end
def qV (t:Int):Prop:=t=-1\/t=-7
theorem abf {ex:Nat->Prop} {w:World} {b:Nat} {o:Nat->Int} {h:Hs} {S:ES} (hR:Rp ex w b o h S) {k:Nat} (pM:S.aC.length<=8796093022208) {K:World->Prop} (hK:∀w',Nx qV ex w b o h {S with aC:=S.aC++[k]} w'->K w') :
  nn (some ⟨b,0,none⟩) λp50=>aZ w (p50.add 6) λxM AD vW=>cg w [Pt (h.hb k)] 124 λb52 dF=>
   ∃(AK:Option Addr) (qK sG:Nat),∃eA:World,(Builtin.append_ #[115,115] 115 #[.slice xM AD vW,.slice (some (⟨b52,0,none⟩:Addr)) 1 1]).run Tryz.prog dF=.ok (.slice AK qK sG) eA/\
   nn (some ⟨b,0,none⟩) λp54=>Vc.st eA ((p54.add 6).add 0) (.slice AK qK sG) K:=by
 refine ay (au (x:=h.le.1) (n:=h.le.2.1) (c:=h.le.2.2) (by rw [ag]; exact hR.self.cell 6) (aD λb52 w1 hb hB k1=>?_));have z1:=k1.size;have rL:=hR.aa k1;have Xd:=jJ hR.le;refine fI (e:=124) (sz:=1) (z:=.pointer none) (B:=8) Tryz.underlying115 (by kernel_rfl) rfl (by omega) rL.le hB.kU (λu hu=>?_) (by simp only [maxLen]; omega) (by omega) λp' c' w2 hO hd=>?_
 ·simp only [List.mem_singleton] at hu; subst hu; rfl
 have kk:af (λj=>o j=-7) w1 w2:=by
  rcases hd with ⟨_,_,_,kk⟩ | ⟨_,kk⟩
  ·exact kk.mono λj _ hj=>hR.wh j hj
  ·exact kk.none
 have z2:=kk.size;have pc:∀j,ob p' j->(j<w.heap.size/\o j=-7)\/w1.heap.size<=j:=λj hj=>by
  rcases hd with ⟨e,_,_,_⟩ | ⟨e,_⟩
  ·rw [e] at hj; exact Or.inl ⟨hR.le.lt j hj,hR.wh j hj⟩
  ·exact Or.inr (e j hj)
 have To:=fZ (T:=λt=>t=-7) rL.self hR.cC kk (by decide);refine ay ?_;rw [ag,ag];refine aG To (by simp) rfl λw3 hs3 k3 z3=>hK w3 ?_;have uk:=hR.self.lt;have bI:af (λj=>qV (o j)) w w3:=((k1.none (S:=λj=>qV (o j))).trans kk λj _ hh=>Or.inr hh).trans k3 λj _ hh=>by
  have hj:j=b:=hh;show qV (o j);rw [hj,hR.cC]; exact Or.inl rfl
 have lo:∀{j:Nat},o j≠ -9->j<w.heap.size:=λ{j} hj=>by
  apply Classical.byContradiction;intro hn;exact hj (hR.wj j (by omega))
 have nT:∀{t:Int},t≠ -1->t≠ -7->¬qV t:=λa b hh=>by rcases hh with h | h; exact a h; exact b h
 let o':Nat->Int:=λj=>open Classical in if j<w.heap.size then o j else if ob p' j then -7 else -9;have e0:∀{j:Nat} {t:Int},t≠ -9->o j=t->o' j=t:=λ{j} {t} bz hj=>by
  show (open Classical in if j<w.heap.size then o j else _)=t;rw [if_pos (lo (by rw [hj]; exact bz))]; exact hj
 have Eh:=hR.Te (T:=qV) bI (nT (by decide) (by decide));have xq:=Rp.s_ (h:=h) (S:=S) (T:=qV) hR bI (nT (by decide) (by decide)) (nT (by decide) (by decide));have lX:=Rp.Tf (h:=h) (S:=S) (T:=qV) hR bI (nT (by decide) (by decide));refine ⟨o',{h with le:=(p',h.le.2.1+1,c')},⟨hs3,e0 (by decide) hR.cC,jI Eh (λi hi=>⟨e0 (by decide) hi.1,hi.2⟩) (λi hi=>hi.2),Rp.UR (h:=h) (S:=S) (T:=qV) hR bI (nT (by decide) (by decide)),λj hj=>e0 (by decide) (hR.Ak j hj),
  ct (T:=qV) hR.oo hR.sZ bI (nT (by decide) (by decide)),λj hj=>e0 (by decide) (hR.sZ j hj),ct (T:=qV) hR.out hR.jQ bI (nT (by decide) (by decide)),λj hj=>e0 (by decide) (hR.jQ j hj),hR.Bv,hR.CB,
  Rp.zg (h:=h) (S:=S) (T:=qV) hR bI (λi hi=>⟨hi,nT (by omega) (by omega)⟩),λi x hx j hj=>⟨e0 (by omega) (Rp.jS (h:=h) (S:=S) (T:=qV) hR bI i x hx j hj).1,(Rp.jS (h:=h) (S:=S) (T:=qV) hR bI i x hx j hj).2⟩,
  ct (T:=qV) hR.sh hR.wg bI (nT (by decide) (by decide)),λj hj=>e0 (by decide) (hR.wg j hj),?_,λj hj=>?_,
  fZ (T:=qV) hR.bk hR.uK bI (nT (by decide) (by decide)),e0 (by decide) hR.uK,ct (T:=qV) hR.lg hR.xm bI (nT (by decide) (by decide)),λj hj=>e0 (by decide) (hR.xm j hj),hR.AP,
  λi x y hx hy=>⟨(lX i x y hx hy).1,λj hj=>⟨e0 (by decide) ((lX i x y hx hy).2 j hj).1,((lX i x y hx hy).2 j hj).2⟩⟩,
  λi d' e_=>by
   obtain ⟨h1,h2,h3,h4⟩:=xq i d' e_;exact ⟨h1,e0 (by decide) h2,h3,λj hj=>⟨e0 (by decide) (h4 j hj).1,(h4 j hj).2⟩⟩,hR.inj,λj hj=>?_⟩,λj hj=>if_pos hj,bI,rfl⟩
 ·show bR w3 _ 1 p' (h.le.2.1+1) c' ((S.aC++[k]).map λk=>Pt (h.hb k));rw [List.map_append];refine hO.ax k3 λj hj hh=>?_;have zj:j=b:=hh;rcases pc j hj with h1 | h1
  ·rw [zj,hR.cC] at h1; exact absurd h1.2 (by decide)
  ·omega
 ·show (open Classical in if j<w.heap.size then o j else if ob p' j then -7 else -9)=-7;rcases pc j hj with h1 | h1
  ·rw [if_pos h1.1]; exact h1.2
  ·rw [if_neg (by omega),if_pos hj]
 ·show (open Classical in if j<w.heap.size then o j else if ob p' j then -7 else -9)=-9;rw [if_neg (by omega),if_neg λhh=>by rcases pc j hh with h1 | h1; omega; have:=hO.lt j hh; omega]
def fJ (S:ES):Option (List Bool):=if S.rest=false\/S.R.length<S.nv then none else some ((List.range S.nv).map λ(i:Nat)=>decide (0<vl S ((i:Int)+1)))
end bp
namespace bp
open Go Vc T
open bt (cQ aL aA bg aO aB Sl sv mE LL)
open dw (fl bx qG cZ cD idx bJ cO cH)
open mT (Ar AR words off cw F_)
open Trail (TI Tr St fR gj ij bW cR eY cL upto bZ dK Open jO)
open bU (En mF)
def om (S:ES) (x:Int):Int:=gj S.nv S.R (x.natAbs:Int)
theorem BD {n:Nat} {R:List E} {L:List Int} (h:St n R L) (hn:n<=1048576) (v:Int) : -1<=gj n R v/\gj n R v<=1048576:=by
 unfold gj;split
 ·split
  ·rename_i e he;have:=h.lvl e (Trail.qz he).2;have h1:=h.T5;have h2:=h.len;omega
  ·omega
 ·omega
section
variable {ex:Nat->Prop} {w:World} {b:Nat} {o:Nat->Int} {h:Hs} {S:ES}
theorem VE (hR:Rp ex w b o h S) {x y:Int} (hx:fl x=true) (hy:fl y=true) :
  Calls Tryz.prog 144 #[Pt b,I x,I y] w λe w'=>e=.returned (I (om S x - om S y))/\af aq w w':=by
 refine (HM (some ⟨b,0,none⟩) x y w (λv w'=>v=I (om S x - om S y)/\af aq w w') ?_).mono λe w' ⟨v,he,hv,hk⟩=>⟨by rw [he,hv],hk⟩
 unfold aez;have kd:af aq w w.drew:=(af.refl _ _).drew;have dm:=hR.aa kd;have Tq:=bx.1 hx;have hfy:=bx.1 hy;have ev:∀{l:Int},fl l=true->(if 1<=l.natAbs/\l.natAbs<=1048576 then (l.natAbs:Int) else 0)=l.natAbs:=λ{l} hl=>if_pos ⟨by have:=bx.1 hl; omega,by have:=bx.1 hl; omega⟩;have c2:∀{V:World},Rp ex V b o h S->∀{K:Option Addr->Prop},K (some ⟨h.T.t,0,none⟩)->iF V ((⟨b,0,none⟩:Addr).add 2) K:=λ{V} MD {K} hK=>by
  rw [ag]; exact cN (MD.self.cell 2) hK
 refine ay (c2 dm (ay (c2 dm ?_)));refine az D_ (Trail.w_ x _ (by omega)) λe w1 ⟨he,uN⟩=>⟨_,he,?_⟩
 subst uN;rw [ev hx];refine ⟨c2 dm rfl,c2 dm rfl,?_⟩;refine az JA (dm.tr.yj _ (by omega)) λe w2 ⟨he,k2⟩=>⟨_,he,?_⟩
 have iM:=dm.aa k2;refine ⟨c2 iM rfl,az D_ (Trail.w_ y _ (by omega)) λe w3 ⟨he,hw3⟩=>⟨_,he,?_⟩⟩;subst hw3;rw [ev hy];refine ⟨c2 iM rfl,az JA (iM.tr.yj _ (by omega)) λe w4 ⟨he,k4⟩=>⟨_,he,?_,(kd.ak k2).ak k4⟩⟩;have r1:=BD hR.tr.st hR.nv (x.natAbs:Int);have r2:=BD hR.tr.st hR.nv (y.natAbs:Int);show I (IntKind.wrap .i64 _)=_;rw [IntKind.wrap_i64];unfold om;congr 1;omega
def nQ (S:ES):List Int->Int
 | []=>0
 | x :: xs=>xs.foldl (λm y=>if 0<om S y - om S m then y else m) x
theorem qW (S:ES) {cs:List Int} (h:cs≠[]):nQ S cs∈cs:=by
 cases cs with
 | nil=>exact absurd rfl h
 | cons x xs=>
  have:∀(ys:List Int) (m:Int),ys.foldl (λm y=>if 0<om S y - om S m then y else m) m=m\/ys.foldl (λm y=>if 0<om S y - om S m then y else m) m∈ys:=λys=>by
   induction ys with
   | nil=>intro m; exact Or.inl rfl
   | cons y ys ih=>
    intro m;rw [List.foldl_cons];rcases ih (if 0<om S y - om S m then y else m) with h1 | h1
    ·rw [h1];split
     ·exact Or.inr (by simp)
     ·exact Or.inl rfl
    ·exact Or.inr (List.mem_cons_of_mem _ h1)
  rcases this xs x with h1 | h1
  ·show xs.foldl _ x∈_;rw [h1]; simp
  ·exact List.mem_cons_of_mem _ h1
theorem afQ (hR:Rp ex w b o h S) {p:Option Addr} {n c:Nat} {cs:List Int} (hC:cQ w p n cs) (bz:cs≠[]) (hn:n<=17592186044416) (hf:∀x∈cs,fl x=true) :
  Calls Tryz.prog 143 #[.slice p n c,.func (.func 144) #[Pt b] #[]] w λe w'=>e=.returned (I (nQ S cs))/\af aq w w':=by
 refine (H7 p n c (.func (.func 144) #[Pt b] #[]) w (λv w'=>v=I (nQ S cs)/\af aq w w') ?_).mono λe w' ⟨v,he,hv,hk⟩=>⟨by rw [he,hv],hk⟩
 unfold aeR;have hl:=hC.len;have nL:0<cs.length:=List.length_pos_iff.2 bz;refine ⟨λ_ W=>W=w,?_,?_⟩
 ·exact aT (by have:¬(n:Int)<1:=by omega
               exact decide_eq_false this) rfl
 rintro ⟨⟩ w1 rfl;dsimp only;obtain ⟨x0,Tj⟩:=bg nL;have ecs:cs=x0 :: cs.drop 1:=by
  cases cs with
  | nil=>exact absurd rfl bz
  | cons z zs=>simp only [List.getElem?_cons_zero,Option.some.injEq] at Tj; rw [Tj]; rfl
 refine hC.ix (i:=0) (by omega) λa x hx ha=>ah ha ?_;have:x=x0:=by rw [Tj] at hx; injection hx with hx; exact hx.symm
 subst this;refine bX (λs W=>∃i:Nat,s.2.1=(i:Int)/\1<=i/\i<=n/\s.1=nQ S (cs.take i)/\af aq w1 W) (λs _=>(n - s.2.1).toNat) ⟨1,rfl,Nat.le_refl _,by omega,by rw [ecs]; rfl,af.refl _ _⟩ ?_;rintro ⟨m,i',⟨⟩⟩ W ⟨i,rfl,hi1,hi,hm,kW⟩;dsimp only at hm ⊢;refine aF (λaM=>?_) λbL=>?_
 ·have aM:i<n:=by simpa using aM
  rw [aA i (by omega)];have hCW:=hC.ax kW λ_ _ h=>h;have pV:=hR.aa kW;have afR:cs.take i≠[]:=λe=>by
   have:=congrArg List.length e;rw [List.length_take] at this; simp only [List.length_nil] at this; omega
  have WU:m∈cs:=by rw [hm]; exact (List.take_sublist i cs).subset (qW S afR)
  have X9:∀y,cs[i]?=some y->nQ S (cs.take (i+1))=if 0<om S y - om S m then y else m:=λy hy=>by
   rw [hm,cm hy];cases ht:cs.take i with
   | nil=>exact absurd ht afR
   | cons z zs=>show ((zs++[y]).foldl _ z)=_; rw [List.foldl_append]; rfl
  refine ⟨λs W'=>s.1=nQ S (cs.take (i+1))/\af aq w1 W',?_,?_⟩
  ·refine hCW.ix aM λa y hy ha=>ah ha (bU.dP ?_);have hyf:=hf y (List.mem_of_getElem? hy);refine az aeA (VE pV hyf (hf m WU)) λe w4 ⟨he,k4⟩=>⟨_,he,?_⟩
   have kk:=kW.ak k4;refine aF (λhq=>?_) λhq=>?_
   ·have hq:0<om S y - om S m:=by simpa using hq
    refine (hC.ax kk λ_ _ h=>h).ix aM λa y' sk ha=>ah ha ⟨?_,kk⟩;have:y'=y:=by rw [hy] at sk; injection sk with sk; exact sk.symm
    subst this;rw [X9 y' hy,if_pos hq]
   ·have hq:¬0<om S y - om S m:=by simpa using hq
    exact ⟨by rw [X9 y hy,if_neg hq],kk⟩
  ·rintro ⟨m',⟨⟩⟩ W' ⟨h1,h2⟩;exact ⟨⟨i+1,rfl,by omega,aM,h1,h2⟩,by omega⟩
 ·have bL:i=n:=by have:¬(i:Int)<(n:Int):=by simpa using bL
                  omega
  subst bL;rw [<-hl,List.take_length] at hm;exact ⟨by rw [hm],kW⟩
end
theorem VF (q : Option Addr) (w : World) : (method (Tryz.prog.types.size + Made.depth) 112 (.pointer q) "depot/engine.note").run Tryz.prog w = .ok (230, .pointer q) w := by
 kernel_rfl
theorem Rm {ex:Nat->Prop} {w:World} {b:Nat} {o:Nat->Int} {h:Hs} {S:ES} (hR:Rp ex w b o h S) {dr:Bool} {p:Option Addr} {n c:Nat} {cs:List Int} (hC:cQ w p n cs) (hn:n<=8796093022208) (zu:S.log.length<=1099511627776) {R:Ending->World->Prop}
  (hK : ∀ w', Nx iC ex w b o h (tw S dr cs) w' → R (.returned (.tuple #[])) w') : Za Tryz.prog (.iface 112 (Pt h.bk)) "depot/engine.note" [.agg #[.bool dr, .slice p n c]] w R :=
 ⟨112,Pt h.bk,230,Pt h.bk,rfl,λw=>VF _ w,az aeH (VC hR hC hn zu) λe w' ⟨he,hN⟩=>by subst he; exact hK w' hN⟩
end bp
namespace bp
open Go Vc T
open bt (cQ aL aA bg aO aB Sl sv mE LL)
open dw (fl bx qG cZ cD idx bJ cO cH)
open mT (Ar AR words off cw F_)
open Trail (TI Tr St fR gj ij bW cR eY cL upto bZ dK Open jO)
open bU (En mF jt qM shr qT qN)
def tC (S:ES):ES:=tw {S with aQ:=false,dead:=true} false []
def xy (S:ES):Int:=((words S.ar.cs).length:Nat)
def dA (S:ES) (s:List Int):Hd:=⟨xy S,s,0,0,false⟩
def pz (S:ES) (s:List Int):ES:=
 {eU (tw {S with aQ:=false} false s) s with H:=S.H++[dA S s],aC:=S.aC++[S.H.length]}
def aY (S:ES) (s:List Int):ES:=if 1<s.length then gC (pz S s) S.H.length (dA S s) (s.headD 0) (nQ S s.tail) else pz S s
def cU (S:ES) (back:Int) (s:List Int):ES:=kA (fE (aY S s) back) (s.headD 0) (xy S)
theorem Nx.nine {T:Int->Prop} {ex:Nat->Prop} {w w':World} {b:Nat} {o:Nat->Int} {h:Hs} {S:ES} (hN:Nx T ex w b o h S w') (ht:¬T (-9)):∃o' h',Rp ex w' b o' h' S/\Ag w o o'/\af (λi=>T (o i)) w w'/\h'.hb=h.hb/\
  (∀{e:TypeId} {sz:Nat} {p:Option Addr} {n c:Nat} {xs:List Value},bR w e sz p n c xs->(∀j,ob p j->o j=-9)->bR w' e sz p n c xs/\∀j,ob p j->o' j=-9):=by
 obtain ⟨o',h',r,a,k,e⟩:=hN;exact ⟨o',h',r,a,k,e,λhO hn=>⟨ct hO hn k ht,λj hj=>by rw [a j (hO.lt j hj)]; exact hn j hj⟩⟩
theorem eW {T:Int->Prop} (ht:¬T (-9)) {w w1 w2:World} {o o1:Nat->Int} (h:af (λi=>cA (o i)) w w1) (ha:Ag w o o1) (k:af (λi=>T (o1 i)) w1 w2):af (λi=>cA (o i)) w w2:=
 h.trans k λj hj hh=>by rw [ha j hj] at hh; exact λe=>ht (e ▸ hh)
structure LOk (S:ES) (u back:Int) (cl s:List Int):Prop where
 sp:jt (cB S) (gW S.ar S.bad) u back cl
 rs:∀x∈cB S,x.rs.length<=1048576
 cf:(gW S.ar S.bad).length<=1048576
 wd:(words S.ar.cs).length<=8796093022208
 ac:S.ar.cs.length<=8796093022208
 lg:S.log.length<=1099511627776
 cll:cl.length<=1048576
 go:cl≠[]->qM (cB S) cl 0/\s=shr (cB S) cl cl.length/\s≠[]/\(∀x∈s,Wi S.nv x)/\0<=back/\back<=S.L.length/\bZ S.nv (upto back S.R) (s.headD 0)=0
theorem abg {w:World} {b:Nat} {o:Nat->Int} {h:Hs} {S:ES} (hR:Rp dU w b o h S) (hW:WfS S) (hc:S.aQ=true) {u back:Int} {cl s:List Int} (hL:LOk S u back cl s) :
  Calls Tryz.prog 114 #[Pt b] w λe w'=>
   (cl=[]/\e=.returned (.tuple #[.slice none 0 0,I (-1),I 0])/\Nx cA dU w b o h (tC S) w')\/
   (cl≠[]/\∃p c o' h',e=.returned (.tuple #[.slice p s.length c,I back,I 0])/\bR w' 3 1 p s.length c (s.map I)/\(∀j,ob p j->w.heap.size<=j/\o' j=-9)/\Rp dU w' b o' h' (cU S back s)/\Ag w o o'/\af (λi=>cA (o i)) w w'):=by
 refine (ze (some ⟨b,0,none⟩) w (λv w'=>(cl=[]/\v=.tuple #[.slice none 0 0,I (-1),I 0]/\Nx cA dU w b o h (tC S) w')\/
   (cl≠[]/\∃p c o' h',v=.tuple #[.slice p s.length c,I back,I 0]/\bR w' 3 1 p s.length c (s.map I)/\(∀j,ob p j->w.heap.size<=j/\o' j=-9)/\Rp dU w' b o' h' (cU S back s)/\Ag w o o'/\af (λi=>cA (o i)) w w')) ?_).mono λe w' ⟨v,he,hk⟩=>?_
 rotate_left
 ·rcases hk with ⟨a,hv,hk⟩ | ⟨a,p,c,o',h',hv,hk⟩
  ·exact Or.inl ⟨a,by rw [he,hv],hk⟩
  ·exact Or.inr ⟨a,p,c,o',h',by rw [he,hv],hk⟩
 unfold aam;have dS:=hR.nv;have XI:=hR.tr.small;have X_:∀j,One b j->cA (o j):=λj hj=>by
  rw [show j=b from hj,hR.cC];show (-1:Int)≠ -9;decide
 refine ay (dX (x:=S.aQ) (by rw [ag]; exact hR.self.cell 10) ?_);rw [hc];refine aT rfl (ay ?_);rw [ag,ag];refine aG hR.self (by simp) rfl λw1 XJ k1 z1=>?_;have rL:=hR.rK (hd:=S.head) (r:=S.rest) (c:=false) (d:=S.dead) (x:=S.bad) k1 XJ z1;have kk1:af (λi=>cA (o i)) w w1:=k1.mono λj _ hj=>X_ j hj;refine az Bu (BB rL (by have:=hL.wd; show (words S.ar.cs).length<=_; omega)) λe w2 ⟨tp,tc,he,Kl,hEf,k2⟩=>⟨tp,_,tc,he,ay ?_⟩
 have esE:cB {S with head:=S.head,rest:=S.rest,aQ:=false,dead:=S.dead,bad:=S.bad}=cB S:=rfl;rw [esE] at Kl;rw [esE];have eel:(cB S).length<=1048576:=by unfold cB; rw [List.length_map]; omega
 have k2d:=k2.drew;have iM:=rL.aa k2d;refine cN (x:=some ⟨h.st,0,none⟩) (by rw [ag]; exact iM.self.cell 1) (ay (ah (x:=S.bad) (by rw [ag]; exact iM.self.cell 12) ?_));refine az Xe (mT.Xf iM.ar (by have:=hL.wd; show (words S.ar.cs).length<=_; omega) S.bad) λe w3 ⟨v,he,aa9⟩=>?_;obtain ⟨cp,cc,cok,rfl,F9,qg,k3⟩:=Ki aa9;refine ⟨cp,_,cc,cok,he,?_⟩;have uI:=k2d.ak k3;have XZ:mF w3 tp (cB S).length (cB S):=(Kl.aa (af.refl aq w2).drew).aa k3;refine az ae8 (bU.Vs XZ eel hL.rs (aL F9) hL.cf) λe w4 ⟨v,he,hLn⟩=>?_;obtain ⟨u',aom,gp,gn,gc,cl',rfl,alq,uA,hgf,k4⟩:=hLn;obtain ⟨rfl,rfl,rfl⟩:=hL.sp.uniq alq;refine ⟨gp,gn,gc,back,u,he,?_⟩;have oA:=uI.ak k4;have uR:=rL.aa oA;have hgn:=aO uA;by_cases g_:cl=[]
 ·have alr:gn=0:=by rw [<-hgn,g_]; rfl
  refine aX (by rw [alr]; rfl) (ay ?_);rw [ag,ag];refine aG uR.self (by simp) rfl λw5 oe k5 z5=>?_;have Of:=uR.rK (hd:=S.head) (r:=S.rest) (c:=false) (d:=true) (x:=S.bad) k5 oe z5;refine ay ⟨_,by rw [ag]; exact Of.self.cell 7,?_⟩;refine Rm Of (dr:=false) (cs:=[]) ⟨rfl,λi x hx=>by simp at hx⟩ (Nat.zero_le _) hL.lg λw6 hN=>⟨rfl,Or.inl ⟨g_,rfl,?_⟩⟩
  obtain ⟨o6,h6,r6,a6,k6,e6⟩:=hN;refine ⟨o6,h6,r6,?_,?_,e6⟩
  ·have:=oA.size;exact λj hj=>a6 j (by omega)
  ·exact ((kk1.ak oA).trans k5 λj _ hh=>X_ j hh).trans k6 λj _ hh=>by rcases hh with hh | hh | hh<;>(intro e; omega)
 ·obtain ⟨als,hs,alu,Rn,wC,uk,mz⟩:=hL.go g_;have alv:¬(gn:Int)=0:=by
   have:=List.length_pos_iff.2 g_;omega
  refine aT (by simpa using alv) ?_;have hE4:mF w4 tp (cB S).length (cB S):=XZ.aa k4;have alw:=aL uA;have aoR:=hL.cll;refine az afc (bU.Q3 hE4 eel hL.rs alw (by omega)) λe w7 ⟨v,he,hSh⟩=>?_;obtain ⟨us,sp,sn,sc,L,rfl,hau,Vd,hsf,hLs,_,k7⟩:=hSh;have hus:=hau.unique als;have eL:L=s:=by rw [hLs hus,hs]
  subst eL;have sr:=aO Vd;subst sr;refine ⟨sp,L.length,sc,us,he,?_⟩;have QJ:=oA.ak k7;have hR7:=rL.aa QJ;have z27:=QJ.size;have hs9:∀j,ob sp j->o j=-9:=λj hj=>hR.wj j (by have:=hsf j hj; have:=oA.size; omega);have afS:∀j,ob sp j->w.heap.size<=j:=λj hj=>by have:=hsf j hj; have:=oA.size; omega
  have aoS:L.length<=1048576:=by
   have:=bU.Kc (cB S) cl cl.length;rw [hs]; omega
  refine ay ⟨_,by rw [ag]; exact hR7.self.cell 7,?_⟩;refine Rm hR7 (dr:=false) (aL Vd) (by omega) hL.lg λw8 hN8=>⟨rfl,?_⟩
  obtain ⟨o8,h8,r8,a8,k8,e8,n8⟩:=hN8.nine (by intro hh; rcases hh with hh | hh | hh<;>omega);obtain ⟨JE,hs8⟩:=n8 Vd hs9;have kk7:af (λi=>cA (o i)) w w7:=kk1.ak QJ;have z17:w.heap.size<=w7.heap.size:=by omega
  have a08:Ag w o o8:=λj hj=>a8 j (by omega);have kk8:=eW (T:=iC) (o1:=o) (by intro hh; rcases hh with hh | hh | hh<;>omega) kk7 (Ag.refl _ _) k8;have z8:=k8.size;refine ay (cN (x:=some ⟨h8.st,0,none⟩) (by rw [ag]; exact r8.self.cell 1) ?_);refine az adw (afO r8 (aL JE) JE.news (by omega) (λj hj _ hh=>by rw [hs8 j hj] at hh; exact absurd hh (by decide)) (λx hx=>iA dS (Rn x hx)) (by have:=hL.wd; show (words S.ar.cs).length+_+1<=_; omega) (by have:=hL.ac; show S.ar.cs.length+1<=_; omega) true) λe w9 ⟨he,hN9⟩=>⟨_,_,he,?_⟩
  obtain ⟨o9,h9,r9,a9,k9,e9,n9⟩:=hN9.nine (by decide);obtain ⟨S9,alx⟩:=n9 JE hs8;have z9:=k9.size;have a09:Ag w o o9:=a08.trans a9 (by omega);have kk9:=eW (T:=AZ) (by decide) kk8 a08 k9;refine az Ec (uZ (aL S9) (by omega)) λe cK ⟨v,he,kp,kc,hv,Hw,Eg,fD⟩=>?_;subst hv;refine ⟨kp,L.length,kc,he,?_⟩;have z10:=fD.size;refine aD λsE dB aly CM gF=>?_;have z11:=gF.size;have QZ:=fD.ak gF;have r11:=r9.aa QZ;have pX:=Hw.lt;obtain ⟨o11,h11,alz,t11,IB,WM,est,ebk⟩:=r11.Kk (bb:=sE) (x:=(kp,L.length,kc)) (d:=dA S L) CM (r9.wj sE (by omega)) (aL (Hw.aa gF)) (λj hj=>⟨r9.wj j (Eg j hj),by have:=pX j hj; omega,by have:=pX j hj; omega⟩)
   (λi ids hi k hk=>by
    obtain ⟨d,hd,_⟩:=hW.w1 i k ids hi hk;exact (List.getElem?_eq_some_iff.1 hd).1) hW.sh hW.le
  have IB:h11.hb S.H.length=sE:=IB;have a11:Ag w9 o9 o11:=λj hj=>by
   rcases t11 j with h1 | h1 | h1
   ·exact h1
   ·omega
   ·have:=Eg j h1; omega
  have a0':Ag w o o11:=a09.trans a11 (by omega);have alA:=S9.aa QZ;have alB:∀j,ob sp j->o11 j=-9:=λj hj=>by rw [a11 j (S9.lt j hj)]; exact alx j hj
  have abh:=kk9.ak QZ;have hPL:=abf alz (k:=S.H.length) (by have:=hW.HY; exact this)
   (K:=λeG=>jn (σ:=Unit) (λUI=>
    bC (decide ((L.length:Int)>1)) (
     cr sp L.length 0 1 λUH=>
     aW .i64 (World.drew eG) UH λxl=>
     (0:Int)<=1/\1<=(L.length:Int)/\
     Vc.cl Tryz.prog 143 [.slice (jZ sp sc (Int.toNat 1) 1) (L.length - (Int.toNat 1)) (sc - (Int.toNat 1)),.func (.func 144) #[Pt b] #[]] (World.drew eG) λe61 eM=>∃vH:Int,e61=Ending.returned (.int .i64 vH)/\
     (
      aW .i64 eM UH λzb=>
      ((.int .i64 zb:Value)=.int .i64 xl))/\
     Vc.cl Tryz.prog 66 [Pt b,Pt sE,.int .i64 xl,.int .i64 vH] eM λe63 fe=>e63=Ending.returned (.tuple #[])/\
     UI (()) fe) (
     UI (()) eG)) λs56 gT=>match s56 with
   | (_)=>
   Vc.cl Tryz.prog 145 [Pt b,.int .i64 back] gT λe65 gB=>e65=Ending.returned (.tuple #[])/\
   cr sp L.length 0 1 λp67=>
   aW .i64 gB p67 λpU=>
   Vc.cl Tryz.prog 135 [Pt b,.int .i64 pU,Pt sE] gB λe69 fV=>e69=Ending.returned (.tuple #[])/\
   ((cl=[]/\(Value.tuple #[.slice sp L.length sc,.int .i64 back,.int .i64 0])=.tuple #[.slice none 0 0,I (-1),I 0]/\Nx cA dU w b o h (tC S) fV)\/
   (cl≠[]/\∃p c o' h',(Value.tuple #[.slice sp L.length sc,.int .i64 back,.int .i64 0])=.tuple #[.slice p L.length c,I back,I 0]/\bR fV 3 1 p L.length c (L.map I)/\(∀j,ob p j->w.heap.size<=j/\o' j=-9)/\Rp dU fV b o' h' (cU S back L)/\Ag w o o'/\af (λi=>cA (o i)) w fV)))
   λeG alC=>?_
  ·rw [IB] at hPL;exact hPL
  obtain ⟨o14,h14,r14,a14,lq,e14,n14⟩:=alC.nine (by intro hh; rcases hh with hh | hh<;>omega);obtain ⟨abi,afT⟩:=n14 alA alB;have z14:=lq.size;have abj:Ag w o o14:=a0'.trans a14 (by omega);have afU:=eW (T:=qV) (by intro hh; rcases hh with hh | hh<;>omega) abh a0' lq;have Ro:h14.hb S.H.length=sE:=by rw [e14]; exact IB
  have eS:({(eU (tw {S with head:=S.head,rest:=S.rest,aQ:=false,dead:=S.dead,bad:=S.bad} false L) L) with H:=S.H++[dA S L],aC:=S.aC++[S.H.length]} : ES)=pz S L:=rfl;have afV:Rp dU eG b o14 h14 (pz S L):=r14;obtain ⟨x0,xs,exs⟩:∃x0 xs,L=x0 :: xs:=by
   cases L with
   | nil=>exact absurd rfl alu
   | cons x0 xs=>exact ⟨x0,xs,rfl⟩
  have Tj:L[0]?=some x0:=by rw [exs]; rfl
  have ehd:L.headD 0=x0:=by rw [exs]; rfl
  have hdK:(pz S L).H[S.H.length]?=some (dA S L):=by
   show (S.H++[dA S L])[S.H.length]?=_;rw [List.getElem?_append_right (Nat.le_refl _),Nat.sub_self]; rfl
  have afW:0<L.length:=by rw [exs]; simp
  refine ⟨λ_ W=>∃o1 h1,Rp dU W b o1 h1 (aY S L)/\bR W 3 1 sp L.length sc (L.map I)/\(∀j,ob sp j->o1 j=-9)/\Ag w o o1/\af (λi=>cA (o i)) w W/\h1.hb S.H.length=sE,?_,?_⟩
  ·refine aF (λhq=>?_) λhq=>?_
   ·have hq:1<L.length:=by have:(1:Int)<(L.length:Int):=by simpa using hq
                           omega
    have kd:af aq eG eG.drew:=(af.refl _ _).drew;have rd:=afV.aa kd;have S7:=abi.aa kd;have AU:=aL S7;refine AU.ix (i:=0) afW λa x hx ha=>ah ha ⟨by omega,by omega,?_⟩;have:x=x0:=by rw [Tj] at hx; injection hx with hx; exact hx.symm
    subst this;have Km:cQ eG.drew (jZ sp sc (Int.toNat 1) 1) (L.length - (Int.toNat 1)) (L.drop 1):=dw.cQ.drop AU hq abi.le.1;have afX:L.drop 1=xs:=by rw [exs]; rfl
    have etl:L.tail=xs:=by rw [exs]; rfl
    have Ya:L.drop 1≠[]:=λe=>by
     have:=congrArg List.length e;rw [List.length_drop] at this; simp only [List.length_nil] at this; omega
    have hmx:nQ S (L.drop 1)∈L:=(List.drop_sublist 1 L).subset (qW S Ya);refine az aeS (afQ rd Km Ya (by show L.length - 1<=_; omega) λy hy=>iA dS (Rn y ((List.drop_sublist 1 L).subset hy))) λe eM ⟨he,sJ⟩=>⟨_,he,ah (sJ.cell ha λh=>h) rfl,?_⟩
    have emx:nQ (pz S L) (L.drop 1)=nQ S L.tail:=by rw [afX,etl]; rfl
    rw [emx];have r16:=rd.aa sJ;have abk:Wi S.nv x:=Rn x (List.mem_of_getElem? Tj);have hmw:Wi S.nv (nQ S L.tail):=by rw [etl,<-afX]; exact Rn _ hmx
    have h28:=J5 r16 hdK (a:=x) (c:=nQ S L.tail) abk hmw (λi ids hi=>by have:=hW.len (i:=i) (ids:=ids) hi; have:=hW.cl; omega) (λhh=>hh) (λhh=>hh);rw [Ro] at h28;refine az aen h28 λe fe ⟨he,alD⟩=>⟨he,?_⟩
    have afY:=kd.ak sJ;obtain ⟨o17,h17,r17,a17,kz,e17,n17⟩:=alD.nine (by intro hh; rcases hh with hh | hh | hh<;>omega);obtain ⟨aa6,alE⟩:=n17 (S7.aa sJ) afT;have zz:=afY.size;refine ⟨o17,h17,?_,aa6,alE,abj.trans a17 (by omega),eW (T:=sI) (by intro hh; rcases hh with hh | hh | hh<;>omega) (afU.ak afY) abj kz,by rw [e17]; exact Ro⟩;have:aY S L=gC (pz S L) S.H.length (dA S L) x (nQ S L.tail):=by unfold aY; rw [if_pos hq,ehd]
    rw [this]; exact r17
   ·have hq:¬1<L.length:=by have:¬(1:Int)<(L.length:Int):=by simpa using hq
                            omega
    have:aY S L=pz S L:=by unfold aY; rw [if_neg hq]
    exact ⟨o14,h14,by rw [this]; exact afV,abi,afT,abj,afU,Ro⟩
  rintro ⟨⟩ gT ⟨o15,h15,r15,alF,Q5,a15,afZ,af0⟩;dsimp only;have z15:=afZ.size;have eyR:(aY S L).R=S.R/\(aY S L).L=S.L/\(aY S L).nv=S.nv/\(aY S L).H.length=S.H.length+1/\∃d,(aY S L).H[S.H.length]?=some d/\d.at_=xy S:=by
   have uc:(S.H++[dA S L]).length=S.H.length+1:=by rw [List.length_append]; rfl
   unfold aY;split
   ·refine ⟨rfl,rfl,rfl,by show ((S.H++[dA S L]).set _ _).length=_; rw [List.length_set,uc],_,List.getElem?_set_self (by show _<(S.H++[dA S L]).length; omega),rfl⟩
   ·exact ⟨rfl,rfl,rfl,uc,_,hdK,rfl⟩
  obtain ⟨q1,q2,q3,q4,dk,hdk,HW⟩:=eyR;refine az XD (XO r15 wC (by rw [q2]; exact uk)) λe gB ⟨he,alG⟩=>⟨he,?_⟩
  obtain ⟨o18,Om,r18,a18,t_,e18,n18⟩:=alG.nine (by intro hh; rcases hh with hh | hh | hh<;>omega);obtain ⟨af1,alH⟩:=n18 alF Q5;have alI:=eW (T:=cI) (by intro hh; rcases hh with hh | hh | hh<;>omega) afZ a15 t_;have af2:Ag w o o18:=a15.trans a18 z15;have z18:=t_.size;refine (aL af1).ix (i:=0) afW λa x hx ha=>ah ha ?_;have:x=x0:=by rw [Tj] at hx; injection hx with hx; exact hx.symm
  subst this;have abk:Wi S.nv x:=Rn x (List.mem_of_getElem? Tj);have J4:bZ (fE (aY S L) back).nv (fE (aY S L) back).R x=0:=by
   show bZ (aY S L).nv (upto back (aY S L).R) x=0;rw [q1,q3,<-ehd]; exact mz
  have h48:=Qx r18 (k:=S.H.length) (d:=dk) hdk (by rw [HW]; unfold xy; omega) (l:=x) (by have:=abk.2.1; omega) J4;rw [show Om.hb S.H.length=sE by rw [e18]; exact af0] at h48;refine az Qi h48 λe fV ⟨he,alJ⟩=>⟨he,Or.inr ⟨g_,?_⟩⟩
  obtain ⟨o19,Gl,r19,a19,ta,e19,n19⟩:=alJ.nine (by intro hh; rcases hh with hh | hh | hh<;>omega);obtain ⟨alK,alL⟩:=n19 af1 alH;refine ⟨sp,sc,o19,Gl,rfl,alK,λj hj=>⟨afS j hj,alL j hj⟩,?_,af2.trans a19 (by omega),eW (T:=cI) (by intro hh; rcases hh with hh | hh | hh<;>omega) alI af2 ta⟩;have:cU S back L=kA (fE (aY S L) back) x dk.at_:=by unfold cU; rw [ehd,HW]
  rw [this]; exact r19
end bp
namespace bp
open Go Vc T
open bt (cQ aL aA bg aO aB Sl sv mE LL)
open dw (fl bx qG cZ cD idx bJ cO cH Td)
open mT (Ar AR words off cw F_)
open Trail (TI Tr St fR gj ij bW cR eY cL upto bZ dK Open jO)
open bU (En mF jt qM shr qT qN)
theorem Rq {P:Program} {w:World} {t ty e:TypeId} {sz B:Nat} {z:Value} {g:Nat} {n c:Nat} {xs:List Value} {a:Addr} {m mc:Nat} {news:List Value}
  {K:Option Addr->Nat->Nat->World->Prop}
  (ht:P.underlying t=some (.slice e)) (Ax:(P.info? e).map (λi=>(i.zero,i.size,i.bytes))=some (some z,sz,B))
  (hO:bR w e sz (some ⟨g,0,none⟩) n c xs) (hl:news.length=m*sz) (kZ:∀j u,news[j]?=some u->w.cell? (a.add j)=some u) (h1:∀u∈news,u.oneCell'=true) (jM:n+m<=c)
  (hk:∀w',bR w' e sz (some ⟨g,0,none⟩) (n+m) c (xs++news)->af (One g) w w'->K (some ⟨g,0,none⟩) (n+m) c w') :
  ∃(p':Option Addr) (n' c':Nat),∃w':World,(Builtin.append_ #[t,t] ty #[.slice (some ⟨g,0,none⟩) n c,.slice (some a) m mc]).run P w=.ok (.slice p' n' c') w'/\K p' n' c' w':=by
 obtain ⟨i,hi,cW⟩:=Option.map_eq_some_iff.1 Ax;simp only [Prod.mk.injEq] at cW;obtain ⟨hz,rfl,rfl⟩:=cW;have ny:=hO.len;rcases hO with ⟨h,_⟩ | ⟨g',cs,hp,hB,O6,F4,vE,rfl⟩
 ·cases h
 cases hp;have xI:(cs.take (n*i.size)).length=n*i.size:=ny;have hle:(n+m)*i.size<=c*i.size:=Nat.mul_le_mul_right _ jM;rw [Nat.add_mul] at hle;have GY:n*i.size+news.length<=cs.toArray.size:=by rw [hl,List.size_toArray,vE]; exact hle
 have hr:=run_append_room (P:=P) w t ty e i ht hi g n c cs.toArray hB a m mc news hl kZ h1 jM GY;refine ⟨_,_,_,_,hr,hk _ (Or.inr ⟨g,cs.take (n*i.size)++news++cs.drop (n*i.size+news.length),rfl,setRow_heap w g cs.toArray _ e _ hB,jM,F4,?_,?_⟩) ⟨rfl,rfl,rfl,by simp,λk _ gq=>setRow_other w g k _ (λe=>gq e)⟩⟩
 ·simp only [List.length_append,xI,List.length_drop,hl];omega
 ·have hlen:(cs.take (n*i.size)++news).length=(n+m)*i.size:=by rw [List.length_append,xI,hl,Nat.add_mul]
  rw [<-hlen];exact List.take_left
theorem abl {w:World} {xs:List Value} {k m n c cc:Nat} {b:Nat} {K:World->Prop} (h:bR w 124 1 (some ⟨b,0,none⟩) k c xs) (hm:k+m<=c) {ty:TypeId}
  (hK:∀w',bR w' 124 1 (some ⟨b,0,none⟩) k c xs->af (One b) w w'->K w') :
  ∃w':World,(Builtin.clear_ #[115] ty #[.slice (some ⟨b,k,none⟩) m cc]).run Tryz.prog w=.ok (.tuple #[]) w'/\K w':=by
 rcases h with ⟨h,_⟩ | ⟨b',cs,hp,hB,h1,h2,h3,rfl⟩
 ·cases h
 cases hp;have hz:∀w,(zeroValue 124).run Tryz.prog w=.ok (.pointer none) w:=λw=>ia (by kernel_rfl) w;by_cases VG:m=0
 ·subst VG;exact ⟨w,by simp [Builtin.clear_,run_underlying Tryz.underlying115],hK w (Or.inr ⟨b,cs,rfl,hB,h1,h2,h3,rfl⟩) (af.refl _ _)⟩
 refine ⟨_,Lib.run_clear_slice w 115 124 ty (.pointer none) Tryz.underlying115 hz rfl rfl b k m cc (by omega) (λj hj=>?_) (λj hj=>hB.frozen _),?_⟩
 ·rw [hB.cell,List.getElem?_eq_getElem (by omega)]; rfl
 ·obtain ⟨ku,q1,q2,q3,q4⟩:=dw.uC (List.replicate m (.pointer none)) b k w cs hB;refine hK _ (Or.inr ⟨b,ku,rfl,q1,by omega,h2,by omega,?_⟩) q4;rw [Nat.mul_one,q3]
theorem Rr {w:World} {p:Option Addr} {n c:Nat} {f:Nat->Value} {ks:List Nat} (hf:∀k,(f k).oneCell'=true) (hO:bR w 124 1 p n c (ks.map f)) {i:Nat} (hi:i<n) (hn:n<=17592186044416) :
  Calls Tryz.prog 182 #[.slice p n c,I i,I ((i:Int)+1)] w λe w'=>e=.returned (.slice p (n - 1) c)/\bR w' 124 1 p (n - 1) c ((ks.eraseIdx i).map f)/\af (ob p) w w':=by
 refine (H8 p n c i ((i:Int)+1) w (λv w'=>v=.slice p (n - 1) c/\bR w' 124 1 p (n - 1) c ((ks.eraseIdx i).map f)/\af (ob p) w w') ?_).mono λe w' ⟨v,he,hv,hk⟩=>⟨by rw [he,hv],hk⟩
 unfold aeT;have hle:=hO.le;have pX:ks.length=n:=by have:=hO.len; simpa using this
 refine ⟨by omega,by omega,by omega,by omega,by omega,by omega,aT ?_ ⟨by omega,by omega,by omega,by omega,?_⟩⟩
 ·have:¬(i:Int)=(i:Int)+1:=by omega
  simpa using this
 have kd:af aq w w.drew:=(af.refl _ _).drew;have pT:=hO;rcases hO with ⟨_,h0,_,_⟩ | ⟨g,cs,rfl,hB,h1,h2,h3,h4⟩
 ·omega
 have S7:=pT.aa kd;have ZI:=S7.cut (m:=i) (by omega);have e1:Int.toNat ((i:Int)+1)=i+1:=by omega
 rw [dw.nC,Int.toNat_natCast,Nat.sub_zero,Nat.sub_zero,e1];have sr:∃a,jZ (some (⟨g,0,none⟩:Addr)) c (i+1) 1=some a/\∀j u,((ks.map f).drop (i+1))[j]?=some u->w.drew.cell? (a.add j)=some u:=by
  unfold jZ;split
  ·rename_i hc;refine ⟨_,rfl,λj u hu=>?_⟩;have:=(List.getElem?_eq_some_iff.1 hu).1;rw [List.length_drop,List.length_map] at this;omega
  ·refine ⟨_,rfl,λj u hu=>?_⟩;rw [List.getElem?_drop] at hu;show w.drew.cell? (((⟨g,0,none⟩:Addr).add ((i+1)*1)).add j)=_;rw [ag,ag,Nat.mul_one,Nat.zero_add];have hj:=(List.getElem?_eq_some_iff.1 hu).1;rw [List.length_map] at hj;rw [S7.cell _ (by omega)];exact hu
 obtain ⟨a,ha,vM⟩:=sr;rw [ha];refine Rq (e:=124) (sz:=1) (z:=.pointer none) (B:=8) Tryz.underlying115 (by kernel_rfl) ZI (news:=(ks.map f).drop (i+1)) (by rw [List.length_drop,List.length_map]; omega) vM (λu hu=>?_) (by omega) λw1 hO1 k1=>?_
 ·obtain ⟨k,_,rfl⟩:=List.mem_map.1 (List.mem_of_mem_drop hu);exact hf k
 have en:i+(n - (i+1))=n - 1:=by omega
 rw [en] at hO1 ⊢;refine ⟨by omega,by omega,by omega,by omega,?_⟩;have exs:(ks.map f).take (i*1)++(ks.map f).drop (i+1)=(ks.eraseIdx i).map f:=by
  rw [Nat.mul_one,List.eraseIdx_eq_take_drop_succ,List.map_append,List.map_take,List.map_drop]
 rw [exs] at hO1;have es2:jZ (some (⟨g,0,none⟩:Addr)) c (Int.toNat ((n - 1:Nat):Int)) 1=some ⟨g,n - 1,none⟩:=by
  rw [Int.toNat_natCast];unfold jZ;rw [if_neg (by omega)];simp [ag]
 rw [es2,Int.toNat_natCast,Int.toNat_natCast];refine abl hO1 (n:=n) (by omega) λw2 Cm k2=>⟨rfl,Cm,?_⟩
 exact (kd.none.trans k1 λj _ hj=>⟨_,rfl,(show j=g from hj).symm⟩).trans k2 λj _ hj=>⟨_,rfl,(show j=g from hj).symm⟩
section
variable {w:World} {p q:Option Addr} {n m c d:Nat} {xs ys:List Int}
theorem VH (hX:cQ w p n xs) (hY:cQ w q m ys) (hn:n<=17592186044416) :
  Calls Tryz.prog 208 #[.slice p n c,.slice q m d] w λe w'=>e=.returned (.bool (decide (xs=ys)))/\af aq w w':=by
 refine (Hj p n c q m d w (λv w'=>v=.bool (decide (xs=ys))/\af aq w w') ?_).mono λe w' ⟨v,he,hv,hk⟩=>⟨by rw [he,hv],hk⟩
 unfold adk;have hx:=hX.len;have hy:=hY.len;refine aF (λhq=>?_) λhq=>?_
 ·have hq:¬n=m:=by have:¬(n:Int)=(m:Int):=by simpa using hq
                   omega
  refine ⟨?_,af.refl _ _⟩;rw [decide_eq_false λe=>hq (by rw [<-hx,<-hy,e])]
 have hq:n=m:=by have:(n:Int)=(m:Int):=by simpa using hq
                 omega
 subst hq;refine bX (λs W=>∃i:Nat,s.1=(i:Int)/\i<=n/\xs.take i=ys.take i/\af aq w W) (λs _=>(n - s.1).toNat) ⟨0,rfl,Nat.zero_le _,rfl,af.refl _ _⟩ ?_;rintro ⟨i',⟨⟩⟩ W ⟨i,rfl,hi,ht,kW⟩;dsimp only;refine aF (λaM=>?_) λbL=>?_
 ·have aM:i<n:=by simpa using aM
  rw [aA i (by omega)];have kd:=kW.drew;refine (hX.ax kd λ_ _ h=>h).ix aM λa x hx ha=>ah ha ?_;refine (hY.ax kd λ_ _ h=>h).ix aM λa' y hy ha'=>ah ha' ?_;refine aF (λhq=>?_) λhq=>?_
  ·have hq:¬x=y:=by simpa using hq
   refine ⟨?_,kd⟩;rw [decide_eq_false λe=>hq (by rw [e,hy] at hx; injection hx with hx; exact hx.symm)]
  ·have hq:x=y:=by simpa using hq
   exact ⟨⟨i+1,rfl,aM,by rw [aB hx,aB hy,ht,hq],kd⟩,by omega⟩
 ·have bL:i=n:=by have:¬(i:Int)<(n:Int):=by simpa using bL
                  omega
  subst bL;have h1:xs.take i=xs:=by rw [<-hx,List.take_length]
  have h2:ys.take i=ys:=by rw [<-hy,List.take_length]
  rw [h1,h2] at ht;exact ⟨by rw [decide_eq_true ht],kW⟩
def tD (xs ys:List Int):Bool:=(xs.all fl&&ys.all fl)&&(xs.all (λx=>decide (x∈ys))&&ys.all (λx=>decide (x∈xs)))
theorem abm (hX:cQ w p n xs) (hY:cQ w q m ys) (hn:n<=17592186044416) (hm:m<=17592186044416) :
  Calls Tryz.prog 200 #[.slice p n c,.slice q m d] w λe w'=>e=.returned (.bool (tD xs ys))/\af aq w w':=by
 refine (Hh p n c q m d w (λv w'=>v=.bool (tD xs ys)/\af aq w w') ?_).mono λe w' ⟨v,he,hv,hk⟩=>⟨by rw [he,hv],hk⟩
 unfold adi;refine az LC (mT.yl hX hn) λe w1 ⟨r,he,hr,k1⟩=>⟨r,he,?_⟩
 have Rt:∀{zs:List Int} {r:Bool},(r=true↔∀x∈zs,fl x=true)->zs.all fl=r:=λ{zs r} h=>by
  cases r with
  | true=>exact List.all_eq_true.2 (h.1 rfl)
  | false=>
   cases ha:zs.all fl with
   | false=>rfl
   | true=>exact absurd (h.2 (List.all_eq_true.1 ha)) (by decide)
 have ex:=Rt hr;cases r with
 | false=>
  refine a_ rfl (a_ rfl (a_ rfl (a_ rfl ⟨?_,k1⟩)));unfold tD; rw [ex]; rfl
 | true=>
  refine aS rfl (az LC (mT.yl (hY.ax k1 λ_ _ h=>h) hm) λe w2 ⟨r2,he,Ko,k2⟩=>⟨r2,he,?_⟩);have ey:=Rt Ko;have fF:=k1.ak k2;cases r2 with
  | false=>
   refine a_ rfl (a_ rfl (a_ rfl ⟨?_,fF⟩));unfold tD; rw [ex,ey]; rfl
  | true=>
   refine aS rfl (az O8 (dw.Bp (hX.ax fF λ_ _ h=>h) hn) λe w3 ⟨v,L1,he,fQ,p1,c1,hv,hO1,hn1,k3⟩=>?_);subst hv;refine ⟨p1,L1.length,c1,he,?_⟩;have gQ:=fF.ak k3;refine aS rfl (az O8 (dw.Bp (hY.ax gQ λ_ _ h=>h) hm) λe w4 ⟨v,L2,he,yY,p2,c2,hv,Cm,hn2,k4⟩=>?_);subst hv;refine ⟨p2,L2.length,c2,he,?_⟩;have lq:=gQ.ak k4;have uc:=fQ.len;refine aS rfl (az adl (VH ((aL hO1).ax k4 λ_ _ h=>h) (aL Cm) (by show L1.length<=_; omega)) λe w5 ⟨he,k5⟩=>⟨_,he,?_,lq.ak k5⟩);have fx:=hr.1 rfl;have fy:=Ko.1 rfl;have key:decide (L1=L2)=(xs.all (λx=>decide (x∈ys))&&ys.all (λx=>decide (x∈xs))):=by
    rw [Bool.eq_iff_iff,decide_eq_true_iff,Bool.and_eq_true,List.all_eq_true,List.all_eq_true];constructor
    ·intro e;refine ⟨λx hx=>decide_eq_true ?_,λx hx=>decide_eq_true ?_⟩
     ·have:=(fQ.mem x).2 ⟨hx,fx x hx⟩;rw [e] at this;exact ((yY.mem x).1 this).1
     ·have:=(yY.mem x).2 ⟨hx,fy x hx⟩;rw [<-e] at this;exact ((fQ.mem x).1 this).1
    ·rintro ⟨h1,h2⟩;exact fQ.uniq yY λx _=>⟨λhx=>of_decide_eq_true (h1 x hx),λhx=>of_decide_eq_true (h2 x hx)⟩
   show Value.bool (cond (cond true true false) (decide (L1=L2)) false)=.bool (tD xs ys);unfold tD;rw [ex,ey,key];rfl
end
end bp
namespace bp
open Go Vc T
open bt (cQ aL aA bg aO aB Sl sv mE LL)
open dw (fl bx qG cZ cD idx bJ cO cH Td)
open mT (Ar AR words off cw F_)
open Trail (TI Tr St fR gj ij bW cR eY cL upto bZ dK Open jO)
open bU (En mF jt qM shr qT qN)
def rsB (ls:List Int) (x:En):Bool:=decide (0<x.rs.length)&&tD x.rs ls
theorem Ru {w:World} {b2 hb:Nat} {t:TypeId} {x:Sl} {a e0 e1:Int} {gone:Bool} {ls rs:List Int} {lit dM:Int} {q:Option Addr} {rn rc:Nat} (bH:b_ w b2 [Pt hb] t) (hBh:b_ w hb [I a,sv x,I e0,I e1,.bool gone] 127) (hC:cQ w x.1 x.2.1 ls) (hE:cQ w q rn rs) (hl:ls.length<=1099511627776) (hr:rs.length<=1099511627776) :
  Calls Tryz.prog 199 #[.agg #[I lit,I dM,.slice q rn rc],Pt b2] w λe w'=>e=.returned (.bool (rsB ls ⟨lit,dM,rs⟩))/\af aq w w':=by
 refine (H6 lit dM q rn rc ⟨b2,0,none⟩ w (λv w'=>v=.bool (rsB ls ⟨lit,dM,rs⟩)/\af aq w w') ?_).mono λe w' ⟨v,he,hv,hk⟩=>⟨by rw [he,hv],hk⟩
 unfold aeP;have g_:=hC.len;have uj:=hE.len;refine aD λb w1 lP XJ k1=>?_;have Gg:=k1.drew;have alM:b_ w1.drew b _ 175:=XJ.aa (af.refl aq w1).drew;have c2:∀{K:Option Addr->Nat->Nat->Prop},K q rn rc->aZ w1.drew ((⟨b,0,none⟩:Addr).add 2) K:=λhK=>by
  rw [ag]; exact au (alM.cell 2) hK
 refine c2 ?_;by_cases nL:0<rn
 ·have hd:decide ((rn:Int)>0)=true:=decide_eq_true (by omega);rw [hd];refine aS rfl (c2 (aS rfl (cN (x:=some ⟨hb,0,none⟩) ((bH.aa Gg).cell 0) (aS rfl (ay (aS rfl ?_))))));refine au (x:=x.1) (n:=x.2.1) (c:=x.2.2) (by rw [ag]; exact (hBh.aa Gg).cell 1) (aS rfl ?_);refine az adj (abm (hE.ax Gg λ_ _ h=>h) (hC.ax Gg λ_ _ h=>h) (by show rn<=_; omega) (by show x.2.1<=_; omega)) λe w2 ⟨he,k2⟩=>⟨_,he,?_,Gg.ak k2⟩
  unfold rsB;rw [decide_eq_true (by show 0<rs.length; omega)];rfl
 ·have hd:decide ((rn:Int)>0)=false:=decide_eq_false (by omega);rw [hd];refine a_ rfl (a_ rfl (a_ rfl (a_ rfl (a_ rfl ⟨?_,Gg⟩))));unfold rsB;rw [decide_eq_false (by show ¬0<rs.length; omega)];rfl
def fq (S:ES) (d:Hd):Bool:=(cB S).any (rsB d.ls)
section
variable {ex:Nat->Prop} {w:World} {b:Nat} {o:Nat->Int} {h:Hs} {S:ES}
theorem Rv (hR:Rp ex w b o h S) {k:Nat} {d:Hd} (hd:S.H[k]?=some d) (Bg:d.ls.length<=1099511627776) (Rk:∀x∈cB S,x.rs.length<=1048576) (hw:(words S.ar.cs).length<=17592186044416) :
  Calls Tryz.prog 179 #[Pt b,Pt (h.hb k)] w λe w'=>e=.returned (.bool (fq S d))/\af aq w w':=by
 refine (HJ (some ⟨b,0,none⟩) (some ⟨h.hb k,0,none⟩) w (λv w'=>v=.bool (fq S d)/\af aq w w') ?_).mono λe w' ⟨v,he,hv,hk⟩=>⟨by rw [he,hv],hk⟩
 unfold aeu;refine aD λb2 w1 rN bH k1=>?_;have rL:=hR.aa k1;refine az Bu (BB rL hw) λe w2 ⟨tp,tc,he,Kl,hEf,k2⟩=>⟨tp,_,tc,he,?_⟩
 have fF:=k1.ak k2;have iM:=hR.aa fF;have alN:=bH.aa k2;obtain ⟨hBh,_,hC,_⟩:=iM.held k d hd;have XI:=hR.tr.small;have eel:(cB S).length<=1048576:=by unfold cB; rw [List.length_map]; omega
 have alO:Calls Tryz.prog 207 #[.slice tp (cB S).length tc,.func (.func 199) #[] #[Pt b2]] w2 λe w'=>∃v:Int,e=.returned (I v)/\decide (v >= 0)=fq S d/\af aq w2 w':=by
  refine (H_ tp (cB S).length tc (.func (.func 199) #[] #[Pt b2]) w2 (λv w'=>∃x:Int,v=I x/\decide (x >= 0)=fq S d/\af aq w2 w') ?_).mono λe w' ⟨v,he,x,hv,hk⟩=>⟨x,by rw [he,hv],hk⟩
  unfold aeX;refine bX (λs W=>∃i:Nat,s.1=(i:Int)/\i<=(cB S).length/\((cB S).take i).any (rsB d.ls)=false/\af aq w2 W) (λs _=>((cB S).length - s.1).toNat) ⟨0,rfl,Nat.zero_le _,rfl,af.refl _ _⟩ ?_;rintro ⟨i',⟨⟩⟩ W ⟨i,rfl,hi,ht,kW⟩;dsimp only;refine aF (λaM=>?_) λbL=>?_
  ·have aM:i<(cB S).length:=by simpa using aM
   rw [aA i (by omega)];obtain ⟨x,hx⟩:=bg aM;refine (Kl.aa kW).ix hx λa ⟨q,rn,rc,c0,c1,c2,hr⟩=>ah c0 (ah c1 (au c2 (bU.dP ?_)));have hxr:=Rk x (List.mem_of_getElem? hx);refine az aeQ (Ru (lit:=x.lit) (dM:=x.dM) (rc:=rc) (alN.aa kW) (hBh.aa kW) (hC.ax kW λ_ _ h=>h) hr Bg (by omega)) λe w4 ⟨he,k4⟩=>⟨_,he,?_⟩
   have kk:=kW.ak k4;refine aF (λhq=>⟨i,rfl,?_,kk⟩) λhq=>⟨⟨i+1,rfl,aM,?_,kk⟩,by omega⟩
   ·rw [decide_eq_true (by omega)];exact (List.any_eq_true.2 ⟨x,List.mem_of_getElem? hx,hq⟩).symm
   ·rw [cm hx,List.any_append,ht];simpa using hq
  ·have bL:i=(cB S).length:=by
    have:¬(i:Int)<((cB S).length:Int):=by simpa using bL
    omega
   subst bL;rw [List.take_length] at ht;exact ⟨-1,rfl,by unfold fq; rw [ht]; rfl,kW⟩
 refine az aeW (R':=λe w'=>e=.returned (.bool (fq S d))/\af aq w2 w') ?_ λe w3 ⟨he,k3⟩=>⟨_,he,rfl,fF.ak k3⟩
 refine (H9 tp (cB S).length tc (.func (.func 199) #[] #[Pt b2]) w2 (λv w'=>v=.bool (fq S d)/\af aq w2 w') ?_).mono λe w' ⟨v,he,hv,hk⟩=>⟨by rw [he,hv],hk⟩
 unfold aeV;exact az aeY alO λe w3 ⟨v,he,hv,k3⟩=>⟨v,he,by rw [hv],k3⟩
def nR (S:ES) (d:Hd):Bool:=d.ls.all (λl=>decide (om S l=0))&&decide ((d.ls.filter λl=>decide (0<vl S l)).length=1)
theorem MM (hR:Rp ex w b o h S) {k:Nat} {d:Hd} (hd:S.H[k]?=some d) (Bg:d.ls.length<=1099511627776) (hf:∀x∈d.ls,fl x=true) :
  Calls Tryz.prog 180 #[Pt b,Pt (h.hb k)] w λe w'=>e=.returned (.bool (nR S d))/\af aq w w':=by
 refine (HK (some ⟨b,0,none⟩) (some ⟨h.hb k,0,none⟩) w (λv w'=>v=.bool (nR S d)/\af aq w w') ?_).mono λe w' ⟨v,he,hv,hk⟩=>⟨by rw [he,hv],hk⟩
 unfold aew;obtain ⟨hB,_,hC,_⟩:=hR.held k d hd;have g_:=hC.len;refine ay (au (x:=(h.hl k).1) (n:=(h.hl k).2.1) (c:=(h.hl k).2.2) (by rw [ag]; exact hB.cell 1) ?_);refine bX (λs W=>∃i:Nat,s.2.1=(i:Int)/\i<=d.ls.length/\s.1=(((d.ls.take i).filter λl=>decide (0<vl S l)).length:Nat)/\(d.ls.take i).all (λl=>decide (om S l=0))=true/\af aq w W) (λs _=>(d.ls.length - s.2.1).toNat) ⟨0,rfl,Nat.zero_le _,rfl,rfl,af.refl _ _⟩ ?_;rintro ⟨mG,i',⟨⟩⟩ W ⟨i,rfl,hi,IC,ha,kW⟩;dsimp only at IC ⊢;subst IC;refine aF (λaM=>?_) λbL=>?_
 ·have aM:i<d.ls.length:=by
   have:(i:Int)<((h.hl k).2.1:Int):=by simpa using aM
   omega
  rw [aA i (by omega)];obtain ⟨x,hx⟩:=bg aM;have hxf:=bx.1 (hf x (List.mem_of_getElem? hx));have aoT:((d.ls.take i).filter λl=>decide (0<vl S l)).length<=d.ls.length:=Nat.le_trans (List.length_filter_le _ _) (by rw [List.length_take]; omega);refine ⟨λs W'=>s.1=(((d.ls.take (i+1)).filter λl=>decide (0<vl S l)).length:Nat)/\(d.ls.take (i+1)).all (λl=>decide (om S l=0))=true/\af aq w W',?_,?_⟩
  ·have kd:=kW.drew;have pV:=hR.aa kd;refine (hC.ax kW λ_ _ h=>h).ix (by omega) λa y hy ha'=>ah ha' ?_;have:y=x:=by rw [hx] at hy; injection hy with hy; exact hy.symm
   subst this;have c2:∀{V:World},Rp ex V b o h S->∀{K:Option Addr->Prop},K (some ⟨h.T.t,0,none⟩)->iF V ((⟨b,0,none⟩:Addr).add 2) K:=λ{V} MD {K} hK=>by
    rw [ag]; exact cN (MD.self.cell 2) hK
   refine ay (c2 pV ?_);refine az D_ (Trail.w_ y _ (by omega)) λe w3 ⟨he,hw3⟩=>⟨_,he,?_⟩
   subst hw3;have ev:(if 1<=y.natAbs/\y.natAbs<=1048576 then (y.natAbs:Int) else 0)=y.natAbs:=if_pos ⟨by omega,by omega⟩;rw [ev];refine ⟨c2 pV rfl,az JA (pV.tr.yj _ (by omega)) λe w4 ⟨he,k4⟩=>⟨_,he,?_⟩⟩;have uX:=kd.ak k4;have elv:gj S.nv S.R (y.natAbs:Int)=om S y:=rfl;rw [elv];refine aF (λhq=>?_) λhq=>?_
   ·have hq:¬om S y=0:=by simpa using hq
    refine ⟨?_,uX⟩;have:d.ls.all (λl=>decide (om S l=0))=false:=by
     rw [List.all_eq_false];exact ⟨y,List.mem_of_getElem? hx,by simpa using hq⟩
    unfold nR; rw [this]; rfl
   ·have hq:om S y=0:=by simpa using hq
    have fA:(d.ls.take (i+1)).all (λl=>decide (om S l=0))=true:=by
     rw [cm hx,List.all_append,ha]; simpa using hq
    have uR:=hR.aa uX;refine uR.uM (uR.val (by omega) λw5 k5=>⟨_,rfl,?_⟩);have wz:=uX.ak k5;refine aF (λhv=>⟨?_,fA,wz⟩) λhv=>⟨?_,fA,wz⟩
    ·have hv:0<vl S y:=by simpa using hv
     rw [cm hx,List.filter_append,List.length_append,List.filter_cons,if_pos (decide_eq_true hv)];exact aA _ (by omega)
    ·have hv:¬0<vl S y:=by simpa using hv
     rw [cm hx,List.filter_append,List.length_append,List.filter_cons,if_neg (by simpa using hv)];rfl
  ·rintro ⟨c',⟨⟩⟩ W' ⟨h1,h2,h3⟩;exact ⟨⟨i+1,rfl,aM,h1,h2,h3⟩,by omega⟩
 ·have bL:i=d.ls.length:=by
   have:¬(i:Int)<((h.hl k).2.1:Int):=by simpa using bL
   omega
  subst bL;rw [List.take_length] at ha ⊢;refine ⟨?_,kW⟩;unfold nR;rw [ha,Bool.true_and];congr 1;rw [Bool.eq_iff_iff,beq_iff_eq,decide_eq_true_iff];omega
end
end bp
namespace bp
open Go Vc T
open bt (cQ aL aA bg aO aB Sl sv mE LL)
open dw (fl bx qG cZ cD idx bJ cO cH Td)
open mT (Ar AR words off cw F_)
open Trail (TI Tr St fR gj ij bW cR eY cL upto bZ dK Open jO)
open bU (En mF jt qM shr qT qN)
section
variable {ex:Nat->Prop} {w w':World} {b:Nat} {o:Nat->Int} {h:Hs} {S:ES}
theorem Rp.alP (hR:Rp ex w b o h S) {g:Sl} {ks:List Nat} (bI:af (λj=>qV (o j)) w w') (hs:b_ w' b [I S.nv,Pt h.st,Pt h.T.t,sv h.oo,sv h.ll,sv h.ss,sv g,.iface 112 (Pt h.bk),I S.head,.bool S.rest,.bool S.aQ,.bool S.dead,I S.bad] 120)
  (hO:bR w' 124 1 g.1 g.2.1 g.2.2 (ks.map λk=>Pt (h.hb k))) (hg:∀j,ob g.1 j->o j=-7):Rp ex w' b o {h with le:=g} {S with aC:=ks}:=by
 have nT:∀{t:Int},t≠ -1->t≠ -7->¬qV t:=λa b hh=>by rcases hh with h | h; exact a h; exact b h
 have z:=bI.size;exact ⟨hs,hR.cC,Rp.Te (h:=h) (S:=S) (T:=qV) hR bI (nT (by decide) (by decide)),Rp.UR (h:=h) (S:=S) (T:=qV) hR bI (nT (by decide) (by decide)),hR.Ak,
  ct (T:=qV) hR.oo hR.sZ bI (nT (by decide) (by decide)),hR.sZ,ct (T:=qV) hR.out hR.jQ bI (nT (by decide) (by decide)),hR.jQ,hR.Bv,hR.CB,
  Rp.zg (h:=h) (S:=S) (T:=qV) hR bI (λi hi=>⟨hi,nT (by omega) (by omega)⟩),Rp.jS (h:=h) (S:=S) (T:=qV) hR bI,
  ct (T:=qV) hR.sh hR.wg bI (nT (by decide) (by decide)),hR.wg,hO,hg,
  fZ (T:=qV) hR.bk hR.uK bI (nT (by decide) (by decide)),hR.uK,ct (T:=qV) hR.lg hR.xm bI (nT (by decide) (by decide)),hR.xm,hR.AP,
  Rp.Tf (h:=h) (S:=S) (T:=qV) hR bI (nT (by decide) (by decide)),Rp.s_ (h:=h) (S:=S) (T:=qV) hR bI (nT (by decide) (by decide)) (nT (by decide) (by decide)),hR.inj,λj hj=>hR.wj j (by omega)⟩
end
def xz (S:ES) (d:Hd):Bool:=fq S d || nR S d
def Yb (S:ES) (k:Nat) (d:Hd):ES:={S with H:=S.H.set k {d with gone:=true}}
def jb (S:ES) (i k:Nat) (d:Hd):ES:=tw {zv (Yb S k d) d.at_ with aC:=S.aC.eraseIdx i} true d.ls
def forget (S:ES) (i:Int):Int×ES:=
 if S.rest=false then (3,S) else if i<0\/(S.aC.length:Int)<=i then (2,S)
 else match S.aC[i.toNat]? with
 | none=>(2,S)
 | some k=>match S.H[k]? with
  | none=>(2,S)
  | some d=>if xz S d=true then (160,S) else (0,jb S i.toNat k d)
theorem VJ {w:World} {b:Nat} {o:Nat->Int} {h:Hs} {S:ES} (hR:Rp dU w b o h S) (hW:WfS S) (Rk:∀x∈cB S,x.rs.length<=1048576) (hw:(words S.ar.cs).length<=17592186044416) (zu:S.log.length<=1099511627776) (i:Int) :
  Calls Tryz.prog 148 #[Pt b,I i] w λe w'=>e=.returned (I (forget S i).1)/\Nx cA dU w b o h (forget S i).2 w':=by
 refine (HB (some ⟨b,0,none⟩) i w (λv w'=>v=I (forget S i).1/\Nx cA dU w b o h (forget S i).2 w') ?_).mono λe w' ⟨v,he,hv,hk⟩=>⟨by rw [he,hv],hk⟩
 unfold aeh;have Xd:=jJ hR.le;have stop:∀{W:World} {x:Int},af aq w W->forget S i=(x,S)->(I x=I (forget S i).1/\Nx cA dU w b o h (forget S i).2 W):=λ{W x} k e=>by
  rw [e]; exact ⟨rfl,(Nx.refl hR).aa k⟩
 refine ay (dX (x:=S.rest) (by rw [ag]; exact hR.self.cell 9) ?_);cases hr:S.rest with
 | false=>exact aX rfl (stop (af.refl _ _) (by unfold forget; rw [if_pos hr]))
 | true=>
  have f1:forget S i=(if i<0\/(S.aC.length:Int)<=i then ((2:Int),S) else match S.aC[i.toNat]? with
   | none=>((2:Int),S)
   | some k=>match S.H[k]? with
    | none=>((2:Int),S)
    | some d=>if xz S d=true then ((160:Int),S) else ((0:Int),jb S i.toNat k d)):=by unfold forget; rw [if_neg (by rw [hr]; decide)]
  refine aT rfl ?_;have c6:∀{V:World} {h1:Hs} {S1:ES},Rp dU V b o h1 S1->∀{K:Option Addr->Nat->Nat->Prop},K h1.le.1 h1.le.2.1 h1.le.2.2->aZ V ((⟨b,0,none⟩:Addr).add 6) K:=λ{V h1 S1} MD {K} hK=>by
   rw [ag]; exact au (x:=h1.le.1) (n:=h1.le.2.1) (c:=h1.le.2.2) (MD.self.cell 6) hK
  by_cases abn:i<0
  ·rw [decide_eq_true abn];exact a_ rfl (a_ rfl (aX rfl (stop (af.refl _ _) (by rw [f1,if_pos (Or.inl abn)]))))
  rw [decide_eq_false abn];refine aS rfl (ay (aS rfl (c6 hR ?_)));by_cases alQ:(S.aC.length:Int)<=i
  ·exact aX (by have:i >= (h.le.2.1:Int):=by omega
                show cond false true (decide (i >= (h.le.2.1:Int)))=true;rw [decide_eq_true this]; rfl) (stop (af.refl _ _) (by rw [f1,if_pos (Or.inr alQ)]))
  rw [if_neg (by omega)] at f1
  refine aT (by have:¬i >= (h.le.2.1:Int):=by omega
                show cond false true (decide (i >= (h.le.2.1:Int)))=false;rw [decide_eq_false this]; rfl) (ay (c6 hR ?_))
  obtain ⟨j,rfl⟩:∃j:Nat,i=j:=⟨i.toNat,by omega⟩
  rw [Int.toNat_natCast] at f1;have hj:j<S.aC.length:=by omega
  obtain ⟨k,hk⟩:=bg hj;obtain ⟨d,hd⟩:=bg (hW.le k (List.mem_of_getElem? hk));rw [hk] at f1;dsimp only at f1;rw [hd] at f1;dsimp only at f1;obtain ⟨QC,N1,Bg,HW⟩:=hW.hl k d hd;have hle:=hR.le;refine hR.le.ix (by omega) (by omega) λbq CH=>?_;have VD:=hle;rw [CH] at VD;refine cN (x:=some ⟨h.hb k,0,none⟩) (by rw [VD.cell _ (by omega),Int.toNat_natCast,Nat.mul_one,List.getElem?_map,hk]; rfl) ?_;refine az aev (Rv hR hd (by omega) Rk hw) λe w3 ⟨he,k3⟩=>⟨_,he,?_⟩
  have oD:=hR.aa k3;have go:∀{W:World},af aq w W->xz S d=false->nn (some ⟨h.hb k,0,none⟩) λHi=>Vc.st W ((Hi.add 4).add 0) (.bool true) λw6=>
    nn (some ⟨b,0,none⟩) λZs=>iF (World.drew w6) (Zs.add 1) λm_=>nn (some ⟨h.hb k,0,none⟩) λLy=>aW .i64 (World.drew w6) (Ly.add 0) λig=>
    Vc.cl Tryz.prog 181 [.pointer m_,.int .i64 ig] (World.drew w6) λe34 w7=>∃rJ:Int,e34=Ending.returned (.int .i64 rJ)/\
    nn (some ⟨b,0,none⟩) λAJ=>aZ w7 (AJ.add 6) λnh qJ uG=>
    Vc.cl Tryz.prog 182 [.slice nh qJ uG,.int .i64 (j:Int),.int .i64 (IntKind.wrap .i64 ((j:Int)+1))] w7 λe39 w8=>∃(pg:Option Addr) (Mt Mu:Nat),e39=Ending.returned (.slice pg Mt Mu)/\
    nn (some ⟨b,0,none⟩) λG_=>Vc.st w8 ((G_.add 6).add 0) (.slice pg Mt Mu) λw9=>
    nn (some ⟨b,0,none⟩) λp41=>nZ (World.drew w9) (p41.add 7) λoC=>nn (some ⟨h.hb k,0,none⟩) λp43=>aZ (World.drew w9) (p43.add 1) λj_ gM iJ=>
    nkA (oC)=true/\
    Vc.cl Tryz.prog 142 [.slice j_ gM iJ] (World.drew w9) λe46 cK=>∃(yq:Option Addr) (Ez EA:Nat),e46=Ending.returned (.slice yq Ez EA)/\
    (nZ cK (p41.add 7) λnA=>((nA:Value)=oC))/\
    Za Tryz.prog (oC) "depot/engine.note" [.agg #[.bool true, .slice yq Ez EA]] cK fun e48 dB => e48 = Ending.returned (.tuple #[]) ∧
    (Value.int .i64 0=I (forget S (j:Int)).1/\Nx cA dU w b o h (forget S (j:Int)).2 dB):=by
   intro W kW Dh;have f2:forget S (j:Int)=(0,jb S j k d):=by rw [f1,if_neg (by rw [Dh]; decide)]
   rw [f2];have pV:=hR.aa kW;have zW:=kW.size;obtain ⟨hB,alR,_,_⟩:=pV.held k d hd;refine ay ?_;rw [ag,ag];refine aG hB (by simp) rfl λw6 rI k6 z6=>?_;have Rw:=pV.JY (d':={d with gone:=true}) hd rfl k6 rI z6;have kd6:af aq w6 w6.drew:=(af.refl _ _).drew;have abo:=Rw.aa kd6;have hd6:(S.H.set k {d with gone:=true})[k]?=some {d with gone:=true}:=List.getElem?_set_self (List.getElem?_eq_some_iff.1 hd).1;have kk6:af (λi=>cA (o i)) w w6:=(kW.none (S:=λi=>cA (o i))).trans k6 λq _ hq=>by
    have Ts:q=h.hb k:=hq;show o q≠ -9;rw [Ts,alR]; decide
   refine ay (cN (x:=some ⟨h.st,0,none⟩) (by rw [ag]; exact abo.self.cell 1) (ay (ah (x:=d.at_) (by rw [ag]; exact (abo.held k _ hd6).1.cell 0) ?_)));refine az ady (afP abo d.at_) λe w7 ⟨rJ,he,hN7⟩=>⟨_,he,?_⟩
   obtain ⟨o7,h7,r7,a7,k7,e7,n7⟩:=hN7.nine (by decide);have z6d:w6.drew.heap.size=w6.heap.size:=rfl;have a07:Ag w o o7:=λq hq=>a7 q (by omega);have kk7:=eW (T:=AZ) (o1:=o) (by decide) (kk6.ak kd6) (Ag.refl _ _) k7;have z7:=k7.size;have af3:=r7.le;have aoU:S.aC.length=h7.le.2.1:=jJ af3;have aoV:=hW.HY;refine ay (au (x:=h7.le.1) (n:=h7.le.2.1) (c:=h7.le.2.2) (by rw [ag]; exact r7.self.cell 6) ?_);rw [aA j (by omega)];have h39:=Rr (f:=λk=>Pt (h7.hb k)) (ks:=S.aC) (i:=j) (λ_=>rfl) af3 (by omega) (by omega);refine az aeU h39 λe w8 ⟨he,JE,k8⟩=>⟨_,_,_,he,ay ?_⟩
   have kt8:af (λq=>(λt:Int=>t=-7) (o7 q)) w7 w8:=k8.mono λq _ hq=>r7.wh q hq;have hs8:=fZ (T:=λt=>t=-7) r7.self r7.cC kt8 (by decide);rw [ag,ag];refine aG hs8 (by simp) rfl λw9 hs9 k9 z9=>?_;have k79:af (λq=>qV (o7 q)) w7 w9:=(show af (λq=>qV (o7 q)) w7 w8 from kt8.mono λq _ hq=>Or.inr hq).trans k9 λq _ hq=>by
    have Ts:q=b:=hq;show qV (o7 q);rw [Ts,r7.cC]; exact Or.inl rfl
   have S9:=JE.ax k9 λq hq hh=>by
    have jP:q=b:=hh;have:=r7.wh q hq;rw [jP,r7.cC] at this; exact absurd this (by decide)
   have r9:=r7.alP (g:=(h7.le.1,h7.le.2.1 - 1,h7.le.2.2)) (ks:=S.aC.eraseIdx j) k79 hs9 S9 r7.wh;have kk9:=eW (T:=qV) (by intro hh; rcases hh with hh | hh<;>omega) kk7 a07 k79;have z79:=k79.size;have kd9:af aq w9 w9.drew:=(af.refl _ _).drew;have r9d:=r9.aa kd9;have hd9:(zv (Yb S k d) d.at_).H[k]?=some {d with gone:=true}:=hd6;obtain ⟨JK,_,hC9,aoW⟩:=r9d.held k _ hd9;have alS:=hC9.len;rw [show h7.hb k=h.hb k by rw [e7]] at JK;refine ay ⟨_,by rw [ag]; exact r9d.self.cell 7,ay (au (x:=(h7.hl k).1) (n:=(h7.hl k).2.1) (c:=(h7.hl k).2.2) (by rw [ag]; exact JK.cell 1) ⟨rfl,?_⟩)⟩;refine az Ec (uZ hC9 (by have:d.ls.length=(h7.hl k).2.1:=alS; show (h7.hl k).2.1<=_; omega)) λe cK ⟨v,he,kp,kc,hv,Hw,Eg,fD⟩=>?_;subst hv;refine ⟨kp,_,kc,he,⟨_,by rw [ag]; exact (r9d.aa fD).self.cell 7,rfl⟩,?_⟩;have r10:=r9d.aa fD;refine Rm r10 (dr:=true) (aL Hw) (by show d.ls.length<=_; omega) zu λdB alT=>⟨rfl,rfl,?_⟩
   obtain ⟨o11,h11,r11,a11,gF,e11,n11⟩:=alT.nine (by intro hh; rcases hh with hh | hh | hh<;>omega);have af4:=kd9.ak fD;have z10:=af4.size;exact ⟨o11,h11,r11,a07.trans a11 (by omega),eW (T:=iC) (by intro hh; rcases hh with hh | hh | hh<;>omega) (kk9.ak af4) a07 gF,e11.trans e7⟩
  cases hrb:fq S d with
  | true=>
   exact a_ rfl (aX rfl (stop k3 (by rw [f1,if_pos (by unfold xz; rw [hrb]; rfl)])))
  | false=>
   refine aS rfl (az aex (MM oD hd (by omega) λx hx=>iA hR.nv (QC x hx)) λe w4 ⟨he,k4⟩=>⟨_,he,?_⟩);cases hdb:nR S d with
   | true=>exact aX rfl (stop (k3.ak k4) (by rw [f1,if_pos (by unfold xz; rw [hrb,hdb]; rfl)]))
   | false=>exact aT rfl (go (k3.ak k4) (by unfold xz; rw [hrb,hdb]; rfl))
end bp
namespace bp
open Go Vc T
open bt (cQ aL aA bg aO aB Sl sv mE)
open dw (fl bx idx cO bJ qG cZ cH cD Bp Td sY)
def E5 (c:List Int):Prop:=∃x∈c, -x∈c
theorem E6 {L:List Int} (hs:sY L) (hf:∀x∈L,fl x=true):(∃i x,L[i+1]?=some x/\L[i]?=some (-x))↔E5 L:=by
 constructor
 ·rintro ⟨i,x,h1,h2⟩;exact ⟨x,List.mem_of_getElem? h1,List.mem_of_getElem? h2⟩
 ·rintro ⟨x,hx,Yc⟩;obtain ⟨y,hy0,hy,Q8⟩:∃y:Int,0<y/\y∈L/\ -y∈L:=by
   have h0:=(bx.1 (hf x hx)).1;by_cases aM:x<0
   ·exact ⟨-x,by omega,Yc,by rw [Int.neg_neg]; exact hx⟩
   ·exact ⟨x,by omega,hx,Yc⟩
  obtain ⟨i,hi,hie⟩:=List.mem_iff_getElem.1 hy;obtain ⟨j,hj,hje⟩:=List.mem_iff_getElem.1 Q8;have hp:=List.pairwise_iff_getElem.1 hs;have e1:idx (-y)=idx y+1:=by unfold idx; split<;>split<;>omega
  have oa:j=i+1:=by
   rcases Nat.lt_trichotomy j (i+1) with h | h | h
   ·rcases Nat.lt_or_eq_of_le (Nat.le_of_lt_succ h) with h' | h'
    ·have:=hp j i hj hi h';rw [hie,hje] at this; omega
    ·subst h';rw [hie] at hje; omega
   ·exact h
   ·have h1:=hp i (i+1) hi (by omega) (by omega);have h2:=hp (i+1) j (by omega) hj h;rw [hie] at h1; rw [hje] at h2; omega
  subst oa;exact ⟨i, -y,(List.getElem?_eq_getElem hj).trans (by rw [hje]),(List.getElem?_eq_getElem hi).trans (by rw [hie,Int.neg_neg])⟩
theorem abp {w:World} {p:Option Addr} {n c:Nat} {cs:List Int} (dm:cQ w p n cs) (hn:n<=17592186044416) (hf:∀x∈cs,fl x=true) :
  Calls Tryz.prog 64 #[.slice p n c] w λe w'=>∃r:Bool,e=.returned (.bool r)/\(r=true↔E5 cs)/\af aq w w':=by
 refine (LD p n c w (λv w'=>∃r:Bool,v=.bool r/\(r=true↔E5 cs)/\af aq w w') ?_).mono λe w' ⟨v,he,r,hv,hk⟩=>⟨r,by rw [he,hv],hk⟩
 unfold V64;refine az O8 (Bp dm hn) λe w1 ⟨v,L,he,hT,g,gc,hv,hO,hg,k1⟩=>⟨_,_,_,he.trans (congrArg Ending.returned hv),?_⟩
 have hLf:∀x∈L,fl x=true:=λx hx=>((hT.mem x).1 hx).2;have hm:∀x,x∈L↔x∈cs:=λx=>⟨λh=>((hT.mem x).1 h).1,λh=>(hT.mem x).2 ⟨h,hf x h⟩⟩
 have htt:E5 L↔E5 cs:=by unfold E5; simp only [hm]
 have hRL:=aL hO;have hLl:L.length<=2097153:=hT.len;refine bX (λs W=>∃i:Nat,s.1=(i+1:Nat)/\(i=0\/i+1<=L.length)/\af aq w1 W/\∀j x,j<i->L[j+1]?=some x->L[j]?≠some (-x)) (λs _=>(L.length - s.1).toNat) ⟨0,rfl,Or.inl rfl,af.refl _ _,λj x hj=>by omega⟩ ?_;rintro ⟨i',⟨⟩⟩ W ⟨i,rfl,hi,kW,hv⟩;simp only [] at hv ⊢;have kd:af aq w1 W.drew:=kW.drew;refine aF (λaM=>?_) λbL=>?_
 ·have aM:i+1<L.length:=by have:=of_decide_eq_true aM
                           omega
  refine (hRL.aa kW).ix aM λa x hx ha=>ah (by first | exact ha | simpa using ha) ?_;have e1:IntKind.wrap .i64 (((i+1:Nat):Int) - 1)=(i:Nat):=by rw [IntKind.wrap_i64]; omega
  rw [e1];refine (hRL.aa kd).ix (by omega) λa2 y hy IA=>ah IA ?_;have hyf:=bx.1 (hLf y (List.mem_of_getElem? hy));have e2:IntKind.wrap .i64 (0 - y)=-y:=by rw [IntKind.wrap_i64]; omega
  rw [e2];refine aF (λh=>?_) λh=>?_
  ·have h:x=-y:=by simpa using h
   exact ⟨true,rfl,⟨λ_=>htt.1 ((E6 hT.S5 hLf).1 ⟨i,x,hx,by rw [hy,h,Int.neg_neg]⟩),λ_=>rfl⟩,k1.ak kd⟩
  ·have h:x≠ -y:=by simpa using h
   rw [aA (i+1) (by omega)];refine ⟨⟨i+1,rfl,Or.inr (by omega),kd,λj z hj hz hh=>?_⟩,by omega⟩;rcases Nat.lt_or_eq_of_le (Nat.le_of_lt_succ hj) with hj | rfl
   ·exact hv j z hj hz hh
   ·rw [hx] at hz; injection hz with hz; subst hz;rw [hy] at hh; injection hh with hh; omega
 ·have bL:¬i+1<L.length:=by intro hh; have:=of_decide_eq_false bL
                            omega
  refine ⟨false,rfl,⟨λhh=>(by cases hh),λhh=>?_⟩,k1.ak kW⟩;obtain ⟨j,x,h1,h2⟩:=(E6 hT.S5 hLf).2 (htt.2 hh);have Uc:=(List.getElem?_eq_some_iff.1 h1).1;exact absurd h2 (hv j x (by omega) h1)
theorem Rx {w:World} {p:Option Addr} {n c:Nat} {cs:List Int} (dm:cQ w p n cs) (hn:n<=17592186044416) {nv:Nat} (dS:nv<=1048576) :
  Calls Tryz.prog 60 #[.slice p n c,I nv] w λe w'=>∃r:Bool,e=.returned (.bool r)/\(r=true↔∀x∈cs,Wi nv x)/\af aq w w':=by
 refine (LQ p n c nv w (λv w'=>∃r:Bool,v=.bool r/\(r=true↔∀x∈cs,Wi nv x)/\af aq w w') ?_).mono λe w' ⟨v,he,r,hv,hk⟩=>⟨r,by rw [he,hv],hk⟩
 unfold V60;have pM:=dm.len;refine az LC (mT.yl dm hn) λe w1 ⟨r,he,hr,k1⟩=>⟨r,he,?_⟩
 refine aF (λhq=>⟨false,rfl,⟨λhh=>(by cases hh),λhh=>?_⟩,k1⟩) λhq=>?_
 ·rw [hr.2 λx hx=>iA dS (hh x hx)] at hq; cases hq
 have hf:=hr.1 (by simpa using hq);refine bX (λs W=>∃i:Nat,s.1=(i:Int)/\i<=n/\af aq w W/\∀x∈cs.take i,Wi nv x) (λs _=>(n - s.1).toNat) ⟨0,rfl,Nat.zero_le _,k1,λx hx=>by simp at hx⟩ ?_;rintro ⟨i',⟨⟩⟩ W ⟨i,rfl,hi,kW,hv⟩;simp only [] at hv ⊢;refine aF (λaM=>?_) λbL=>?_
 ·have aM:i<n:=by simpa using aM
  rw [aA i (by omega)];refine (dm.aa kW).ix aM λa x hx ha=>ah ha ?_;have hxc:=List.mem_of_getElem? hx;have h3:=bx.1 (hf x hxc);refine az D_ (Trail.w_ x _ (by omega)) λe w2 ⟨he,hw2⟩=>⟨_,he,?_⟩
  subst hw2;have ev:(if 1<=x.natAbs/\x.natAbs<=1048576 then (x.natAbs:Int) else 0)=x.natAbs:=if_pos ⟨by omega,by omega⟩;rw [ev];refine aF (λhq=>⟨false,rfl,⟨λhh=>(by cases hh),λhh=>?_⟩,kW⟩) λhq=>?_
  ·have hq:=of_decide_eq_true hq;have:=hh x hxc;unfold Wi at this;omega
  ·have hq:=of_decide_eq_false hq;refine ⟨⟨i+1,rfl,aM,kW,λy hy=>?_⟩,by omega⟩;rw [aB hx] at hy;rcases List.mem_append.1 hy with hy | hy
   ·exact hv y hy
   ·rw [List.mem_singleton.1 hy];unfold Wi;omega
 ·have bL:i=n:=by simp at bL; omega
  subst bL;rw [<-pM,List.take_length] at hv;exact ⟨true,rfl,⟨λ_=>hv,λ_=>rfl⟩,kW⟩
structure pP (B:Nat->Prop) (w:World) (p:Option Addr) (n:Nat) (av:List (List Int)):Prop where
 len:av.length=n
 cell:∀(i:Nat) (es:List Int),av[i]?=some es->∃(a:Addr) (q:Option Addr) (m c:Nat),p=some a/\w.cell? (a.add i)=some (.slice q m c)/\cQ w q m es/\B a.block/\(∀j,ob q j->0<m->B j)/\(q=none->c=0)
theorem zw {S:Nat->Prop} {w w':World} {q:Option Addr} {m:Nat} {es:List Int} (h:cQ w q m es) (hk:af S w w') (hs:∀j,ob q j->0<m->¬S j):cQ w' q m es:=by
 by_cases hm:m=0
 ·subst hm;have:=List.eq_nil_of_length_eq_zero h.len;subst this;exact ⟨rfl,λi x hx=>by simp at hx⟩
 ·exact h.ax hk λj hj=>hs j hj (by omega)
section
variable {B:Nat->Prop} {w w':World} {p:Option Addr} {n:Nat} {av:List (List Int)}
theorem rO (a:Addr) (i:Nat):(a.add i).block=a.block:=by unfold Addr.add; split<;>rfl
theorem pP.ax {S:Nat->Prop} (h:pP B w p n av) (hk:af S w w') (hs:∀i,B i->¬S i):pP B w' p n av:=
 ⟨h.len,λi es hi=>by
  obtain ⟨a,q,m,c,h1,h2,h3,h4,h5⟩:=h.cell i es hi;exact ⟨a,q,m,c,h1,hk.cell h2 (by rw [rO]; exact hs _ h4),zw h3 hk λj hj h0=>hs j (h5.1 j hj h0),h4,h5⟩⟩
theorem pP.aa (h:pP B w p n av) (hk:af aq w w'):pP B w' p n av:=h.ax hk λ_ _ h=>h
theorem pP.ix (h:pP B w p n av) {i:Nat} {es:List Int} (hx:av[i]?=some es) {K:Addr->Prop} (hk:∀a q m c,w.cell? a=some (.slice q m c)->cQ w q m es->(∀j,ob q j->0<m->B j)->(q=none->c=0)->K a):cr p n (i:Int) 1 K:=by
 have hl:=h.len;have hi:=(List.getElem?_eq_some_iff.1 hx).1;obtain ⟨a,q,m,c,rfl,h2,h3,_,h5,h6⟩:=h.cell i es hx;refine ⟨by omega,by omega,?_⟩;show K _;rw [Nat.mul_one,Int.toNat_natCast];exact hk _ q m c h2 h3 h5 h6
end
def bD (nv:Int) (av:List (List Int)):Prop:=0<=nv/\nv<=1048576/\∀c∈av,∀x∈c,Wi nv.toNat x
theorem qX {B:Nat->Prop} {w:World} {nv:Int} {p:Option Addr} {n c:Nat} {av:List (List Int)} (hC:pP B w p n av) (hn:n<=17592186044416) (hl:∀es∈av,es.length<=17592186044416) :
  Calls Tryz.prog 33 #[.agg #[I nv,.slice p n c]] w λe w'=>∃r:Bool,e=.returned (.bool r)/\(r=true↔bD nv av)/\af aq w w':=by
 refine (LP nv p n c w (λv w'=>∃r:Bool,v=.bool r/\(r=true↔bD nv av)/\af aq w w') ?_).mono λe w' ⟨v,he,r,hv,hk⟩=>⟨r,by rw [he,hv],hk⟩
 unfold V33;have pM:=hC.len;refine aD λb2 w1 rN bH k1=>?_;refine ah (x:=nv) (by rw [ag]; exact bH.cell 0) ?_;have cont:nv<0\/nv>1048576->¬bD nv av:=λh hf=>by obtain ⟨a,b,_⟩:=hf; omega
 refine acT (λh=>?_) λh=>?_
 ·have h0:¬nv<0:=by simpa using h
  have hd:decide (nv<0)=false:=decide_eq_false h0;refine ah (x:=nv) (by rw [ag]; exact bH.cell 0) ?_;rw [hd];refine aF (λhq=>⟨false,rfl,⟨λhh=>(by cases hh),λhh=>absurd hh (cont (Or.inr (by simpa using hq)))⟩,k1⟩) λhq=>?_
  have hle:nv<=1048576:=by have:¬nv>1048576:=by simpa using hq
                           omega
  obtain ⟨m,rfl⟩:=Int.eq_ofNat_of_zero_le (show 0<=nv by omega);refine au (x:=p) (n:=n) (c:=c) (by rw [ag]; exact bH.cell 1) ?_;refine bX (λs W=>∃i:Nat,s.1=(i:Int)/\i<=n/\af aq w1 W/\∀es∈av.take i,∀x∈es,Wi m x) (λs _=>(n - s.1).toNat) ⟨0,rfl,Nat.zero_le _,af.refl _ _,λx hx=>by simp at hx⟩ ?_;rintro ⟨i',⟨⟩⟩ W ⟨i,rfl,hi,kW,hv⟩;simp only [] at hv ⊢;refine aF (λaM=>?_) λbL=>?_
  ·have aM:i<n:=by simpa using aM
   rw [aA i (by omega)];obtain ⟨es,oH⟩:=bg (show i<av.length by omega);have hm:=List.mem_of_getElem? oH;refine ((hC.aa k1).aa kW).ix oH λa q k cc ha dm _ _=>au ha (ah (x:=(m:Nat)) (by rw [ag]; exact (bH.aa kW).cell 0) ?_);refine az ai4 (Rx dm (by rw [<-dm.len]; exact hl es hm) (nv:=m) (by omega)) λe w3 ⟨r,he,hr,k3⟩=>⟨r,he,?_⟩
   refine aF (λhq=>⟨false,rfl,⟨λhh=>(by cases hh),λhh=>?_⟩,(k1.ak kW).ak k3⟩) λhq=>?_
   ·rw [hr.2 (hh.2.2 es hm)] at hq; cases hq
   ·refine ⟨⟨i+1,rfl,aM,kW.ak k3,λy hy=>?_⟩,by omega⟩;rw [List.take_add_one,oH] at hy;rcases List.mem_append.1 hy with hy | hy
    ·exact hv y hy
    ·rw [List.mem_singleton.1 hy]; exact hr.1 (by simpa using hq)
  ·have bL:i=n:=by simp at bL; omega
   subst bL;rw [<-pM,List.take_length] at hv;exact ⟨true,rfl,⟨λ_=>⟨by omega,hle,hv⟩,λ_=>rfl⟩,k1.ak kW⟩
 ·have h0:nv<0:=by simpa using h
  exact aX (by rw [decide_eq_true h0]; rfl) ⟨false,rfl,⟨λhh=>(by cases hh),λhh=>absurd hh (cont (Or.inl h0))⟩,k1⟩
end bp
namespace bp
open Go Vc T Go.ChangeShapes Go.WideShapes Go.ChangeAt Go.RowKit
open bt (cQ)
theorem A0:Tryz.prog.cellsOf 3=1:=by kernel_rfl
theorem af5:Tryz.prog.cellsOf 59=1:=by kernel_rfl
theorem ID:Tryz.prog.cellsOf 22=1:=by kernel_rfl
theorem af6:Tryz.prog.cellsOf 24=2:=by kernel_rfl
def i64 (x:Int):Prop:=-9223372036854775808<=x/\x<=9223372036854775807
theorem wf_i64 {x:Int} (h:(Lit.int .i64 x).wf=true):i64 x:=by
 simp [Lit.wf,IntKind.min,IntKind.max,IntKind.signed,IntKind.bits] at h;exact ⟨h.1,by omega⟩
theorem mH {w:World} {m:Nat} {cs:List Value} (h:Fits Tryz.prog w (m+1) 3 cs):∃n,cs=[I n]/\i64 n:=by
 unfold Fits at h; rw [Tryz.underlying3] at h;obtain ⟨n,a,b⟩:=h;exact ⟨n,a,wf_i64 b⟩
structure Slc {α:Type} (w:World) (k:Nat) (P:List Value->α->Prop) (p:Option Addr) (n c:Nat) (xs:List α):Prop where
 len:xs.length=n
 nc:n<=c
 nil:p=none->c=0
 at_:∀(i:Nat) (x:α),xs[i]?=some x->∃a ku,p=some a/\w.cells? 0 (a.add (i*k)) k=some ku/\P ku x
theorem Ry {α:Type} [Inhabited α] {w:World} {B m mb k:Nat} {t e:TypeId} {cs:List Value} {P:List Value->α->Prop} (hu:Tryz.prog.underlying t=some (.slice e)) (hk:Tryz.prog.cellsOf e=k)
  (hP:∀ku,Fits Tryz.prog w m e ku->Bk Tryz.prog w B mb e ku->∃x,P ku x) (h:Fits Tryz.prog w (m+1) t cs) (hb:Bk Tryz.prog w B (mb+1) t cs):∃p n c xs,cs=[.slice p n c]/\n<=B/\Slc w k P p n c xs:=by
 unfold Fits at h; rw [hu] at h;unfold Bk at hb; rw [hu] at hb;dsimp only at h hb;rcases h with rfl | ⟨a,len,cap,rfl,hl,hm,hx⟩
 ·exact ⟨none,0,0,[],rfl,Nat.zero_le _,rfl,Nat.le_refl _,λ_=>rfl,λi x hx=>by simp at hx⟩
 ·obtain ⟨hn,hbs⟩:=hb _ _ _ rfl;have JM:∀i,i<len->∃x:α,∃ku,w.cells? 0 (a.add (i*k)) k=some ku/\P ku x:=λi hi=>by
   obtain ⟨ku,h1,h2⟩:=hx i (by omega);obtain ⟨x,hx⟩:=hP ku h2 (hbs a rfl i hi _ h1);rw [hk] at h1;exact ⟨x,ku,h1,hx⟩
  refine ⟨some a,len,cap,(List.range len).map λi=>if hi:i<len then Classical.choose (JM i hi) else default,rfl,hn,by simp,hl,(λh=>by cases h),λi x hx=>?_⟩;rw [List.getElem?_map] at hx;by_cases hi:i<len
  ·rw [List.getElem?_range hi] at hx;simp only [Option.map_some,Option.some.injEq] at hx;rw [dif_pos hi] at hx;obtain ⟨ku,h1,h2⟩:=Classical.choose_spec (JM i hi);rw [hx] at h2;exact ⟨a,ku,rfl,h1,h2⟩
  ·rw [List.getElem?_eq_none (by simpa using hi)] at hx; cases hx
theorem cells_one {w:World} {a:Addr} {v:Value} (h:w.cells? 0 a 1=some [v]):w.cell? a=some v:=cell_of_cells?_one h
abbrev Old (w:World):Nat->Prop:=λi=>i<w.heap.size
structure LsI (w:World) (p:Option Addr) (n c:Nat) (xs:List Int):Prop where
 rd:cQ w p n xs
 nc:n<=c
 nil:p=none->c=0
 jH:∀j,ob p j->0<n->j<w.heap.size
 alU:∀x∈xs,i64 x
theorem Rz {w:World} {m mb B:Nat} {cs:List Value} (h:Fits Tryz.prog w (m+2) 59 cs) (hb:Bk Tryz.prog w B (mb+1) 59 cs):∃p n c xs,cs=[.slice p n c]/\n<=B/\LsI w p n c xs:=by
 obtain ⟨p,n,c,xs,e,hn,hS⟩:=Ry (P:=λku (x:Int)=>ku=[I x]/\i64 x) Tryz.underlying59 A0 (λku hf _=>mH hf) h hb;refine ⟨p,n,c,xs,e,hn,⟨hS.len,λi x hx=>?_⟩,hS.nc,hS.nil,λj hj h0=>?_,λx hx=>?_⟩
 ·obtain ⟨a,ku,h1,h2,rfl,_⟩:=hS.at_ i x hx;rw [Nat.mul_one] at h2;exact ⟨a,h1,cells_one h2⟩
 ·obtain ⟨a,rfl,rfl⟩:=hj;have hl:=hS.len;obtain ⟨x,hx⟩:=bt.bg (show 0<xs.length by omega);obtain ⟨a',ku,h1,h2,rfl,_⟩:=hS.at_ 0 x hx;injection h1 with h1; subst h1;have:=B9 (cells_one h2);rwa [rO] at this
 ·obtain ⟨i,hi⟩:=List.mem_iff_getElem?.1 hx;obtain ⟨a,ku,_,_,_,h3⟩:=hS.at_ i x hi;exact h3
structure LsC (w:World) (p:Option Addr) (n c:Nat) (av:List (List Int)):Prop where
 nc:n<=c
 nil:p=none->c=0
 nb:n<=1048576
 lb:∀es∈av,es.length<=1048576/\∀x∈es,i64 x
 rd:pP (Old w) w p n av
theorem MN {w:World} {m mb B:Nat} {cs:List Value} (hB:B<=1048576) (h:Fits Tryz.prog w (m+3) 22 cs) (hb:Bk Tryz.prog w B (mb+2) 22 cs):∃p n c av,cs=[.slice p n c]/\LsC w p n c av/\n<=B:=by
 obtain ⟨p,n,c,xs,e,hn,hS⟩:=Ry (P:=λku (es:List Int)=>∃q m' c',ku=[.slice q m' c']/\m'<=B/\LsI w q m' c' es) Tryz.underlying22 af5 (λku hf lP=>by
  obtain ⟨q,m',c',ys,h1,h2,h3⟩:=Rz hf lP;exact ⟨ys,q,m',c',h1,h2,h3⟩) h hb
 refine ⟨p,n,c,xs,e,⟨hS.nc,hS.nil,by omega,λes oH=>?_,hS.len,λi es hi=>?_⟩,hn⟩
 ·obtain ⟨i,hi⟩:=List.mem_iff_getElem?.1 oH;obtain ⟨a,ku,_,_,q,m',c',_,h2,h3⟩:=hS.at_ i es hi;exact ⟨by have:=h3.rd.len; omega,h3.alU⟩
 ·obtain ⟨a,ku,h1,h2,q,m',c',rfl,_,h3⟩:=hS.at_ i es hi;rw [Nat.mul_one] at h2;have hc:=cells_one h2;have:=B9 hc;rw [rO] at this;exact ⟨a,q,m',c',h1,hc,h3.rd,this,h3.jH,h3.nil⟩
theorem RA {w:World} {m mb B:Nat} {cs:List Value} (hB:B<=1048576) (h:Fits Tryz.prog w (m+4) 24 cs) (hb:Bk Tryz.prog w B (mb+3) 24 cs):∃nv p n c av,cs=[I nv,.slice p n c]/\i64 nv/\LsC w p n c av/\n<=B:=by
 unfold Fits at h; rw [Tryz.underlying24] at h;unfold Bk at hb; rw [Tryz.underlying24] at hb;obtain ⟨hl,h⟩:=h;rw [af6] at hl;match cs,hl with
 | [a0,a1],_=>
  obtain ⟨nv,e0,r0⟩:=mH (m:=m+2) (cs:=[a0]) (by simpa [A0,ID] using h 0 _ rfl);obtain ⟨p,n,c,av,e1,r1⟩:=MN (m:=m) (mb:=mb) hB (cs:=[a1]) (by simpa [A0,ID] using h 1 _ rfl) (by simpa [A0,ID] using hb 1 _ rfl);simp only [List.cons.injEq,and_true] at e0 e1;subst e0 e1;exact ⟨nv,p,n,c,av,rfl,r0,r1⟩
structure Gm (w:World) (p:Option Addr) (n:Nat) (bs:List Bool):Prop where
 len:bs.length=n
 cell:∀(i:Nat) (x:Bool),bs[i]?=some x->∃a,p=some a/\w.cell? (a.add i)=some (.bool x)/\a.block<w.heap.size
section
variable {H:Type} {enc:TypeId×Value->H} {W:World} {base:Nat} {v:Value} {d:DataW H} {ps:List MemPlace}
theorem zA (hv:Value.okWide Tryz.prog W .any base 24 v) (h:DataW.Trod enc Tryz.prog W 0 (λ_=>true) true 24 v d ps) (hb:Rows.uptoBulk d<=1048576) :
  ∃nv p n c av,v=.agg #[I nv,.slice p n c]/\i64 nv/\LsC W p n c av/\n<=Rows.uptoBulk d:=by
 obtain ⟨cs,rfl⟩:=sR Tryz.underlying24 hv;obtain ⟨nv,p,n,c,av,e,r⟩:=RA (m:=0) (mb:=0) hb (B_ h 4) (acU h (Nat.le_refl _) 3);have vE:(Value.agg cs).cells.toList=cs.toList:=rfl;rw [vE] at e;obtain rfl:cs=#[I nv,.slice p n c]:=by
  have:=congrArg List.toArray e;simpa using this
 exact ⟨nv,p,n,c,av,rfl,r⟩
theorem Kq (hv:Value.okWide Tryz.prog W .any base 24 v) (h:DataW.Trod enc Tryz.prog W 0 (λ_=>true) true 24 v d ps) (hb:Rows.uptoBulk d<=1048576) :
  ∃nv p n c av,v=.agg #[I nv,.slice p n c]/\i64 nv/\LsC W p n c av:=by
 obtain ⟨nv,p,n,c,av,h1,h2,h3,_⟩:=zA hv h hb;exact ⟨nv,p,n,c,av,h1,h2,h3⟩
end
end bp
namespace bp
open Go Vc T
open bt (cQ aL aA bg aO aB Sl sv mE LL)
open dw (fl bx qG cZ cD idx bJ cO cH Td sY)
open mT (Ar AR words off cw F_)
open Trail (TI Tr St fR gj ij bW cR eY cL upto bZ dK Open jO)
open bU (En mF jt qM shr qT qN)
def E7 (x:Int):List Int->List Int
 | []=>[x]
 | y :: ys=>if idx x<idx y then x :: y :: ys else if x=y then y :: ys else y :: E7 x ys
def dL (c:List Int):List Int:=c.foldr E7 []
theorem zB (x z:Int):∀L:List Int,z∈E7 x L↔z=x\/z∈L
 | []=>by simp [E7]
 | y :: ys=>by
  unfold E7;split
  ·simp
  ·split
   ·rename_i _ h; subst h; simp
   ·rw [List.mem_cons,zB x z ys,List.mem_cons];constructor
    ·rintro (h | h | h)
     ·exact Or.inr (Or.inl h)
     ·exact Or.inl h
     ·exact Or.inr (Or.inr h)
    ·rintro (h | h | h)
     ·exact Or.inr (Or.inl h)
     ·exact Or.inl h
     ·exact Or.inr (Or.inr h)
theorem E8 {x:Int} (hx:fl x=true):∀{L:List Int},sY L->(∀y∈L,fl y=true)->sY (E7 x L)
 | [],_,_=>List.pairwise_singleton _ _
 | y :: ys,hs,hf=>by
  unfold sY at hs;rw [List.pairwise_cons] at hs;unfold E7;split
  ·rename_i h;refine List.pairwise_cons.2 ⟨λz hz=>?_,List.pairwise_cons.2 hs⟩;rcases List.mem_cons.1 hz with rfl | hz
   ·exact h
   ·have:=hs.1 z hz; omega
  ·split
   ·exact List.pairwise_cons.2 hs
   ·rename_i h1 h2;refine List.pairwise_cons.2 ⟨λz hz=>?_,E8 hx hs.2 λz hz=>hf z (List.mem_cons_of_mem _ hz)⟩;rcases (zB x z ys).1 hz with rfl | hz
    ·have:idx y≠idx z:=λe=>h2 (cO hx (hf y (by simp)) e.symm);omega
    ·exact hs.1 z hz
theorem lI {c:List Int} (hf:∀x∈c,fl x=true):Td (·∈c) (dL c):=by
 have hm:∀(c:List Int) (x:Int),x∈dL c↔x∈c:=λc x=>by
  induction c with
  | nil=>simp [dL]
  | cons y ys ih=>
   show x∈E7 y (dL ys)↔_;rw [zB,ih,List.mem_cons]
 refine ⟨?_,λx=>⟨λh=>⟨(hm c x).1 h,hf x ((hm c x).1 h)⟩,λh=>(hm c x).2 h.1⟩⟩;induction c with
 | nil=>exact List.Pairwise.nil
 | cons y ys ih=>exact E8 (hf y (by simp)) (ih λx hx=>hf x (List.mem_cons_of_mem _ hx)) λz hz=>hf z (List.mem_cons_of_mem _ ((hm ys z).1 hz))
def E9 (c:List Int):Bool:=c.any λx=>decide (-x∈c)
theorem BE (c:List Int):E9 c=true↔E5 c:=by
 unfold E9 E5;rw [List.any_eq_true];constructor
 ·rintro ⟨x,hx,h⟩; exact ⟨x,hx,of_decide_eq_true h⟩
 ·rintro ⟨x,hx,h⟩; exact ⟨x,hx,decide_eq_true h⟩
def cE (S:ES) (c:List Int):Hd:=⟨xy S,dL c,0,0,false⟩
def cG (S:ES) (c:List Int):ES:=
 if E9 c=true then eU S c
 else if (dL c).length<2 then {eU S c with H:=S.H++[cE S c],short:=S.short++[S.H.length]}
 else gC {eU S c with H:=S.H++[cE S c]} S.H.length (cE S c) ((dL c).headD 0) ((dL c).tail.headD 0)
def jc (nv:Nat) (av:List (List Int)):ES:=
 av.foldl cG ⟨nv,⟨[],[]⟩,[],[],List.replicate (2*nv) [],[],[],[],[],0,false,false,false,0⟩
def Dt (t:Int):Prop:=t=-1\/t=-6
theorem abq {ex:Nat->Prop} {w:World} {b:Nat} {o:Nat->Int} {h:Hs} {S:ES} (hR:Rp ex w b o h S) {k:Nat} (pM:S.short.length<=8796093022208) {K:World->Prop} (hK:∀w',Nx Dt ex w b o h {S with short:=S.short++[k]} w'->K w') :
  aZ w ((⟨b,0,none⟩:Addr).add 5) λxM AD vW=>cg w [Pt (h.hb k)] 124 λb52 dF=>
   ∃(AK:Option Addr) (qK sG:Nat),∃eA:World,(Builtin.append_ #[115,115] 115 #[.slice xM AD vW,.slice (some (⟨b52,0,none⟩:Addr)) 1 1]).run Tryz.prog dF=.ok (.slice AK qK sG) eA/\
   Vc.st eA (((⟨b,0,none⟩:Addr).add 5).add 0) (.slice AK qK sG) K:=by
 refine au (x:=h.ss.1) (n:=h.ss.2.1) (c:=h.ss.2.2) (by rw [ag]; exact hR.self.cell 5) (aD λb52 w1 hb hB k1=>?_);have z1:=k1.size;have rL:=hR.aa k1;have Xd:=jJ hR.sh;refine fI (e:=124) (sz:=1) (z:=.pointer none) (B:=8) Tryz.underlying115 (by kernel_rfl) rfl (by omega) rL.sh hB.kU (λu hu=>?_) (by simp only [maxLen]; omega) (by omega) λp' c' w2 hO hd=>?_
 ·simp only [List.mem_singleton] at hu; subst hu; rfl
 have kk:af (λj=>o j=-6) w1 w2:=by
  rcases hd with ⟨_,_,_,kk⟩ | ⟨_,kk⟩
  ·exact kk.mono λj _ hj=>hR.wg j hj
  ·exact kk.none
 have z2:=kk.size;have pc:∀j,ob p' j->(j<w.heap.size/\o j=-6)\/w1.heap.size<=j:=λj hj=>by
  rcases hd with ⟨e,_,_,_⟩ | ⟨e,_⟩
  ·rw [e] at hj; exact Or.inl ⟨hR.sh.lt j hj,hR.wg j hj⟩
  ·exact Or.inr (e j hj)
 have To:=fZ (T:=λt=>t=-6) rL.self hR.cC kk (by decide);rw [ag,ag];refine aG To (by simp) rfl λw3 hs3 k3 z3=>hK w3 ?_;have uk:=hR.self.lt;have bI:af (λj=>Dt (o j)) w w3:=((k1.none (S:=λj=>Dt (o j))).trans kk λj _ hh=>Or.inr hh).trans k3 λj _ hh=>by
  have hj:j=b:=hh;show Dt (o j);rw [hj,hR.cC]; exact Or.inl rfl
 have lo:∀{j:Nat},o j≠ -9->j<w.heap.size:=λ{j} hj=>by
  apply Classical.byContradiction;intro hn;exact hj (hR.wj j (by omega))
 have nT:∀{t:Int},t≠ -1->t≠ -6->¬Dt t:=λa b hh=>by rcases hh with h | h; exact a h; exact b h
 let o':Nat->Int:=λj=>open Classical in if j<w.heap.size then o j else if ob p' j then -6 else -9;have e0:∀{j:Nat} {t:Int},t≠ -9->o j=t->o' j=t:=λ{j} {t} bz hj=>by
  show (open Classical in if j<w.heap.size then o j else _)=t;rw [if_pos (lo (by rw [hj]; exact bz))]; exact hj
 have Eh:=hR.Te (T:=Dt) bI (nT (by decide) (by decide));have xq:=Rp.s_ (h:=h) (S:=S) (T:=Dt) hR bI (nT (by decide) (by decide)) (nT (by decide) (by decide));have lX:=Rp.Tf (h:=h) (S:=S) (T:=Dt) hR bI (nT (by decide) (by decide));refine ⟨o',{h with ss:=(p',h.ss.2.1+1,c')},⟨hs3,e0 (by decide) hR.cC,jI Eh (λi hi=>⟨e0 (by decide) hi.1,hi.2⟩) (λi hi=>hi.2),Rp.UR (h:=h) (S:=S) (T:=Dt) hR bI (nT (by decide) (by decide)),λj hj=>e0 (by decide) (hR.Ak j hj),
  ct (T:=Dt) hR.oo hR.sZ bI (nT (by decide) (by decide)),λj hj=>e0 (by decide) (hR.sZ j hj),ct (T:=Dt) hR.out hR.jQ bI (nT (by decide) (by decide)),λj hj=>e0 (by decide) (hR.jQ j hj),hR.Bv,hR.CB,
  Rp.zg (h:=h) (S:=S) (T:=Dt) hR bI (λi hi=>⟨hi,nT (by omega) (by omega)⟩),λi x hx j hj=>⟨e0 (by omega) (Rp.jS (h:=h) (S:=S) (T:=Dt) hR bI i x hx j hj).1,(Rp.jS (h:=h) (S:=S) (T:=Dt) hR bI i x hx j hj).2⟩,
  ?_,λj hj=>?_,ct (T:=Dt) hR.le hR.wh bI (nT (by decide) (by decide)),λj hj=>e0 (by decide) (hR.wh j hj),
  fZ (T:=Dt) hR.bk hR.uK bI (nT (by decide) (by decide)),e0 (by decide) hR.uK,ct (T:=Dt) hR.lg hR.xm bI (nT (by decide) (by decide)),λj hj=>e0 (by decide) (hR.xm j hj),hR.AP,
  λi x y hx hy=>⟨(lX i x y hx hy).1,λj hj=>⟨e0 (by decide) ((lX i x y hx hy).2 j hj).1,((lX i x y hx hy).2 j hj).2⟩⟩,
  λi d' e_=>by
   obtain ⟨h1,h2,h3,h4⟩:=xq i d' e_;exact ⟨h1,e0 (by decide) h2,h3,λj hj=>⟨e0 (by decide) (h4 j hj).1,(h4 j hj).2⟩⟩,hR.inj,λj hj=>?_⟩,λj hj=>if_pos hj,bI,rfl⟩
 ·show bR w3 _ 1 p' (h.ss.2.1+1) c' ((S.short++[k]).map λk=>Pt (h.hb k));rw [List.map_append];refine hO.ax k3 λj hj hh=>?_;have zj:j=b:=hh;rcases pc j hj with h1 | h1
  ·rw [zj,hR.cC] at h1; exact absurd h1.2 (by decide)
  ·omega
 ·show (open Classical in if j<w.heap.size then o j else if ob p' j then -6 else -9)=-6;rcases pc j hj with h1 | h1
  ·rw [if_pos h1.1]; exact h1.2
  ·rw [if_neg (by omega),if_pos hj]
 ·show (open Classical in if j<w.heap.size then o j else if ob p' j then -6 else -9)=-9;rw [if_neg (by omega),if_neg λhh=>by rcases pc j hh with h1 | h1; omega; have:=hO.lt j hh; omega]
end bp
namespace bp
open Go Vc T
open bt (cQ aL aA bg aO aB Sl sv mE LL)
open dw (fl bx qG cZ cD idx bJ cO cH Td sY)
open Trail (TI Tr St fR gj ij bW cR eY cL upto bZ dK Open jO)
section
variable {S:ES} {d:Hd}
theorem WfS.lt1 (h:WfS S) {i k:Nat} {ids:List Nat} (hi:S.lists[i]?=some ids) (hk:k∈ids):k<S.H.length:=by
 obtain ⟨d,hd,_⟩:=h.w1 i k ids hi hk;exact (List.getElem?_eq_some_iff.1 hd).1
theorem eB {α:Type} {l:List α} {x y:α} {i:Nat} (h:(l++[x])[i]?=some y):(i<l.length/\l[i]?=some y)\/(i=l.length/\x=y):=by
 by_cases hi:i<l.length
 ·rw [List.getElem?_append_left hi] at h; exact Or.inl ⟨hi,h⟩
 ·have:i=l.length:=by
   have:=(List.getElem?_eq_some_iff.1 h).1;rw [List.length_append] at this;simp only [List.length_singleton] at this; omega
  subst this;rw [List.getElem?_append_right (Nat.le_refl _),Nat.sub_self] at h;simp only [List.getElem?_cons_zero,Option.some.injEq] at h;exact Or.inr ⟨rfl,h⟩
theorem WfS.Yd (h:WfS S) (hd:(∀x∈d.ls,Wi S.nv x)/\d.ls.Nodup/\d.ls.length<=2097153/\0<=d.at_) (g_:S.H.length+1<=8796093022208):WfS {S with H:=S.H++[d]}:=by
 refine ⟨⟨h.nv,λk d' hk=>?_,by show (S.H++[d]).length<=_; rw [List.length_append]; exact g_,h.ll,h.nd,λi k ids hi hk=>?_⟩,λk hk=>?_,λk hk=>?_,h.shl,h.HY⟩
 ·rcases eB hk with ⟨_,h1⟩ | ⟨_,rfl⟩
  ·exact h.hl k d' h1
  ·exact hd
 ·obtain ⟨d1,tg,r⟩:=h.w1 i k ids hi hk;exact ⟨d1,by show (S.H++[d])[k]?=_; rw [List.getElem?_append_left (h.lt1 hi hk)]; exact tg,r⟩
 ·have:=h.sh k hk; show k<(S.H++[d]).length; rw [List.length_append]; omega
 ·have:=h.le k hk; show k<(S.H++[d]).length; rw [List.length_append]; omega
theorem WfS.watch (h:WfS S) {k:Nat} (hd:S.H[k]?=some d) (dO:∀(i:Nat) (ids:List Nat),S.lists[i]?=some ids->k∉ids) {a c:Int} (ha:a∈d.ls) (hc:c∈d.ls) (bz:a≠c):WfS (gC S k d a c):=by
 have SN:=h.hl k d hd;have pX:=(List.getElem?_eq_some_iff.1 hd).1;have haw:=SN.1 a ha;have hcw:=SN.1 c hc;have hia:bn a≠bn c:=λe=>bz (jR h.nv haw hcw e);have sx:∀{l:Int},Wi S.nv l->bn l<S.lists.length:=λhl=>by rw [h.ll]; exact fu hl
 have hH:∀(j:Nat),(gC S k d a c).H[j]?=if k=j then some {d with e0:=a,e1:=c} else S.H[j]?:=λj=>by
  show (S.H.set k _)[j]?=_;rw [List.getElem?_set];by_cases f_:k=j
  ·rw [if_pos f_,if_pos pX,if_pos f_]
  ·rw [if_neg f_,if_neg f_]
 have hL:∀(i:Nat) (js:List Nat),(gC S k d a c).lists[i]?=some js->∃ids,S.lists[i]?=some ids/\(js=ids\/(js=ids++[k]/\(i=bn a\/i=bn c))):=λi js hi=>by
  obtain ⟨La,hLa⟩:=bg (sx haw);obtain ⟨Lc,hLc⟩:=bg (sx hcw);have e1:ck S (bn a)=La:=by unfold ck; rw [hLa]; rfl
  have cW:((S.lists.set (bn a) (ck S (bn a)++[k])).set (bn c) (((S.lists.set (bn a) (ck S (bn a)++[k]))[bn c]?.getD [])++[k]))[i]?=some js:=hi;rw [List.getElem?_set_ne hia,hLc,e1] at cW;rw [List.getElem?_set] at cW;split at cW
  ·rename_i he;split at cW
   ·injection cW with cW;exact ⟨Lc,by rw [<-he]; exact hLc,Or.inr ⟨cW.symm,Or.inr he.symm⟩⟩
   ·cases cW
  ·rw [List.getElem?_set] at cW;split at cW
   ·rename_i he;split at cW
    ·injection cW with cW;exact ⟨La,by rw [<-he]; exact hLa,Or.inr ⟨cW.symm,Or.inl he.symm⟩⟩
    ·cases cW
   ·exact ⟨js,cW,Or.inl rfl⟩
 refine ⟨⟨h.nv,λj d' hj=>?_,by show (S.H.set k _).length<=_; rw [List.length_set]; exact h.cl,by show ((S.lists.set _ _).set _ _).length=_; rw [List.length_set,List.length_set]; exact h.ll,λi js hi=>?_,λi j js hi hj=>?_⟩,λj hj=>?_,λj hj=>?_,h.shl,h.HY⟩
 ·rw [hH] at hj;split at hj
  ·injection hj with hj; rw [<-hj]; exact SN
  ·exact h.hl j d' hj
 ·obtain ⟨ids,h1,rfl | ⟨rfl,_⟩⟩:=hL i js hi
  ·exact h.nd i _ h1
  ·exact List.nodup_append.2 ⟨h.nd i ids h1,by simp,λx hx y hy=>by rw [List.mem_singleton.1 hy]; exact λe=>dO i ids h1 (e ▸ hx)⟩
 ·rw [hH];obtain ⟨ids,h1,hh⟩:=hL i js hi;have jH:j∈ids->∃d1,(if k=j then some {d with e0:=a,e1:=c} else S.H[j]?)=some d1/\d1.e0∈d1.ls/\d1.e1∈d1.ls/\d1.e0≠d1.e1/\(i=bn d1.e0\/i=bn d1.e1):=λhm=>by
   rw [if_neg (λe:k=j=>dO i ids h1 (by rw [e]; exact hm))];exact h.w1 i j ids h1 hm
  rcases hh with rfl | ⟨rfl,hw⟩
  ·exact jH hj
  ·rcases List.mem_append.1 hj with hj | hj
   ·exact jH hj
   ·have ej:=List.mem_singleton.1 hj;subst ej;exact ⟨_,if_pos rfl,ha,hc,bz,hw⟩
 ·show j<(S.H.set k _).length; rw [List.length_set]; exact h.sh j hj
 ·show j<(S.H.set k _).length; rw [List.length_set]; exact h.le j hj
theorem WfS.ar (h:WfS S) (A:mT.Ar):WfS {S with ar:=A}:=⟨⟨h.nv,h.hl,h.cl,h.ll,h.nd,h.w1⟩,h.sh,h.le,h.shl,h.HY⟩
theorem WfS.VK (h:WfS S) {k:Nat} (hk:k<S.H.length) (hl:S.short.length+1<=8796093022208):WfS {S with short:=S.short++[k]}:=
 ⟨⟨h.nv,h.hl,h.cl,h.ll,h.nd,h.w1⟩,λj hj=>by
  rcases List.mem_append.1 hj with hj | hj
  ·exact h.sh j hj
  ·rw [List.mem_singleton.1 hj]; exact hk,h.le,by show (S.short++[k]).length<=_; rw [List.length_append]; exact hl,h.HY⟩
theorem wD {L:List Int} (h:sY L):L.Nodup:=h.imp λ{a b} hab e=>by rw [e] at hab; omega
theorem VL (h:WfS S) {c:List Int} (hc:∀x∈c,Wi S.nv x) (g_:S.H.length+1<=8796093022208) (sr:S.short.length+1<=8796093022208):WfS (cG S c):=by
 have hf:∀x∈c,fl x=true:=λx hx=>iA h.nv (hc x hx);have hT:=lI hf;have hdp:(∀x∈(cE S c).ls,Wi S.nv x)/\(cE S c).ls.Nodup/\(cE S c).ls.length<=2097153/\0<=(cE S c).at_:=
  ⟨λx hx=>hc x ((hT.mem x).1 hx).1,wD hT.S5,hT.len,by show 0<=xy S; unfold xy; omega⟩
 have h1:WfS (eU S c):=h.ar _;unfold cG;split
 ·exact h1
 ·have h2:WfS {eU S c with H:=S.H++[cE S c]}:=WfS.Yd (S:=eU S c) h1 hdp g_;have hlen:S.H.length<(S.H++[cE S c]).length:=by rw [List.length_append]; simp
  split
  ·exact WfS.VK (S:={eU S c with H:=S.H++[cE S c]}) h2 hlen sr
  ·rename_i bL;refine h2.watch (k:=S.H.length) (d:=cE S c) (by show (S.H++[cE S c])[S.H.length]?=_; rw [List.getElem?_append_right (Nat.le_refl _),Nat.sub_self]; rfl) (λi ids hi hk=>by have:=h.lt1 hi hk; omega) ?_ ?_ ?_;all_goals (
    have e:∃x y zs,dL c=x :: y :: zs:=by
     cases ht:dL c with
     | nil=>rw [ht] at bL; simp at bL
     | cons x xs=>cases xs with
      | nil=>rw [ht] at bL; simp at bL
      | cons y zs=>exact ⟨x,y,zs,rfl⟩
    obtain ⟨x,y,zs,e⟩:=e;have els:(cE S c).ls=x :: y :: zs:=e;have pS:=hdp.2.1;rw [els] at pS;rw [e])
   ·rw [els]; simp
   ·rw [els]; simp
   ·rw [List.nodup_cons] at pS;show x≠y;intro e; subst e; exact pS.1 (by simp)
end
end bp
namespace bp
open Go Vc T
open bt (cQ aL aA bg aO aB Sl sv mE LL)
open dw (fl bx qG cZ cD idx bJ cO cH Td sY)
open mT (Ar AR words off cw F_)
open Trail (TI Tr St fR gj ij bW cR eY cL upto bZ dK Open jO)
def VM (b2 uD:Nat) (w7:World) (R:Value->World->Prop):Prop:=
    aZ w7 ((⟨b2,0,none⟩:Addr).add 1) λiI ir jB=>
    lp (σ:=Int×Unit) (λs30 w8 ZK=>match s30 with
     | (v28,_)=>
     bC (decide (v28<(ir:Int))) (
      jn (σ:=Unit) (λL5=>
       cr iI ir v28 1 λp35=>
       aZ w8 p35 λtW lD lE=>
       iF w8 ((⟨uD,0,none⟩:Addr).add 1) λpg=>
       cl Tryz.prog 63 [.pointer pg,.slice tW lD lE,.bool false] w8 λe41 cK=>∃yh:Int,∃Dj:Int,e41=Ending.returned (.tuple #[.int .i64 yh,.int .i64 Dj])/\
       cl Tryz.prog 64 [.slice tW lD lE] cK λe44 dB=>∃pL:Bool,e44=Ending.returned (.bool pL)/\
       bC pL (
        L5 (()) dB) (
        cl Tryz.prog 65 [.slice tW lD lE] dB λe47 dF=>∃(tX:Option Addr) (L6 L7:Nat),e47=Ending.returned (.slice tX L6 L7)/\
        cg dF [.int .i64 yh,.slice tX L6 L7,.int .i64 0,.int .i64 0,.bool false] 127 λsE eA=>
        aZ eA ((⟨sE,0,none⟩:Addr).add 1) λvY AH Ek=>
        bC (decide ((AH:Int)<2)) (
         aZ eA ((⟨uD,0,none⟩:Addr).add 5) λxN y9 AI=>
         cg eA [.pointer (some (⟨sE,0,none⟩:Addr))] 124 λb53 eG=>
         ∃(vG:Option Addr) (vZ v8:Nat),∃gT:World,(Builtin.append_ #[115,115] 115 #[.slice xN y9 AI,.slice (some (⟨b53,0,none⟩:Addr)) 1 1]).run Tryz.prog eG=.ok (.slice vG vZ v8) gT/\
         st gT (((⟨uD,0,none⟩:Addr).add 5).add 0) (.slice vG vZ v8) λeM=>
         L5 (()) eM) (
         aZ (World.drew eA) ((⟨sE,0,none⟩:Addr).add 1) λBq El L8=>
         cr Bq El 0 1 λp56=>
         aW .i64 (World.drew eA) p56 λxe=>
         aZ (World.drew eA) ((⟨sE,0,none⟩:Addr).add 1) λBr y_ Cv=>
         cr Br y_ 1 1 λp59=>
         aW .i64 (World.drew eA) p59 λvH=>
         cl Tryz.prog 66 [.pointer (some (⟨uD,0,none⟩:Addr)),.pointer (some (⟨sE,0,none⟩:Addr)),.int .i64 xe,.int .i64 vH] (World.drew eA) λe61 fe=>e61=Ending.returned (.tuple #[])/\
         L5 (()) fe))) λs33 w9=>match s33 with
      | (_)=>
      ZK ((IntKind.wrap .i64 (v28+1)),()) w9) (
      R (.tuple #[.pointer (some (⟨uD,0,none⟩:Addr)),.int .i64 0]) w8)) (0,()) w7
def Nx2 (w:World) (b:Nat) (o:Nat->Int) (S':ES) (w':World):Prop:=∃o' h',Rp dU w' b o' h' S'/\Ag w o o'/\af (λi=>cA (o i)) w w'
theorem rP (S:ES) (c:List Int):(cG S c).ar=(eU S c).ar/\(cG S c).nv=S.nv/\(cG S c).H.length<=S.H.length+1/\(cG S c).short.length<=S.short.length+1:=by
 have hl:(S.H++[cE S c]).length=S.H.length+1:=by rw [List.length_append]; rfl
 unfold cG;split
 ·exact ⟨rfl,rfl,Nat.le_succ _,Nat.le_succ _⟩
 ·split
  ·exact ⟨rfl,rfl,by show (S.H++[cE S c]).length<=_; omega,by show (S.short++[S.H.length]).length<=_; rw [List.length_append]; exact Nat.le_refl _⟩
  ·exact ⟨rfl,rfl,by show ((S.H++[cE S c]).set _ _).length<=_; rw [List.length_set]; omega,Nat.le_succ _⟩
structure NI (S:ES) (i:Nat):Prop where
 wf:WfS S
 h:S.H.length<=i
 s:S.short.length<=i
 a:S.ar.cs.length<=i
 w:(words S.ar.cs).length<=i*1048577
theorem NI.step {S:ES} {i:Nat} (h:NI S i) {c:List Int} (hc:∀x∈c,Wi S.nv x) (hl:c.length<=1048576) (hi:i<1048576):NI (cG S c) (i+1):=by
 obtain ⟨e1,e2,e3,e4⟩:=rP S c;refine ⟨VL h.wf hc (by have:=h.h; omega) (by have:=h.s; omega),by have:=h.h; omega,by have:=h.s; omega,?_,?_⟩
 ·rw [e1]; show (S.ar.cs++[c]).length<=_; rw [List.length_append]; have:=h.a; simp only [List.length_singleton]; omega
 ·rw [e1]; show (words (S.ar.cs++[c])).length<=_; rw [mT.oz,List.length_append]; have:=h.w; simp only [cw,List.length_cons]; omega
theorem alV {w:World} {b2 b:Nat} {o:Nat->Int} {h:Hs} {S:ES} (hR:Rp dU w b o h S) (hN:NI S 0) {B:Nat->Prop} {p:Option Addr} {n c:Nat} {av:List (List Int)} (rN:w.cell? ⟨b2,1,none⟩=some (.slice p n c)) (hC:pP B w p n av) (hB:∀j,B j->o j=-9/\j<w.heap.size)
  (hn:av.length<=1048576) (hl:∀es∈av,es.length<=1048576) (hw:∀es∈av,∀x∈es,Wi S.nv x) {R:Value->World->Prop}
  (hK:∀w',Nx2 w b o (av.foldl cG S) w'->R (.tuple #[Pt b,I 0]) w'):VM b2 b w R:=by
 unfold VM;have g_:=hC.len;refine au (by rw [ag]; exact rN) ?_;refine bX (λs W=>∃(i:Nat) (S1:ES) (o1:Nat->Int) (h1:Hs),s.1=(i:Int)/\i<=av.length/\(av.take i).foldl cG S=S1/\NI S1 i/\S1.nv=S.nv/\Rp dU W b o1 h1 S1/\Ag w o o1/\af (λi=>cA (o i)) w W) (λs _=>(av.length - s.1).toNat)
  ⟨0,S,o,h,rfl,Nat.zero_le _,rfl,hN,rfl,hR,Ag.refl _ _,(af.refl aq _).none⟩ ?_
 rintro ⟨i',⟨⟩⟩ W ⟨i,S1,o1,h1,rfl,hi,pn,VN,xV,xu,uQ,CG⟩;dsimp only;refine aF (λaM=>?_) λbL=>?_
 ·have aM:i<av.length:=by
   have:(i:Int)<(n:Int):=by simpa using aM
   omega
  rw [aA i (by omega)];obtain ⟨es,oH⟩:=bg aM;have pq:=List.mem_of_getElem? oH;have uj:=hl es pq;have hew:∀x∈es,Wi S1.nv x:=by rw [xV]; exact hw es pq
  have alW:=xu.nv;have hef:∀x∈es,fl x=true:=λx hx=>iA alW (hew x hx);have J2:=VN.step hew uj (by omega);have U7:(av.take (i+1)).foldl cG S=cG S1 es:=by rw [cm oH,List.foldl_append,pn]; rfl
  have U':(cG S1 es).nv=S.nv:=(rP S1 es).2.1.trans xV;have zW:=CG.size;have hBm:∀j,B j->¬cA (o j):=λj hj hh=>hh (hB j hj).1;have XJ:∀j,B j->o1 j=-9/\j<W.heap.size:=λj hj=>⟨by rw [uQ j (hB j hj).2]; exact (hB j hj).1,by have:=(hB j hj).2; omega⟩
  have hCW:=hC.ax CG hBm;refine ⟨λ_ W'=>∃(o2:Nat->Int) (h2:Hs),Rp dU W' b o2 h2 (cG S1 es)/\Ag w o o2/\af (λi=>cA (o i)) w W',?_,?_⟩;rotate_left
  ·rintro ⟨⟩ W' ⟨o2,h2,r2,a2,k2⟩;exact ⟨⟨i+1,cG S1 es,o2,h2,rfl,aM,U7,J2,U',r2,a2,k2⟩,by omega⟩
  refine hCW.ix oH λa q m cc ha dm hqB hqn=>au ha (cN (x:=some ⟨h1.st,0,none⟩) (by rw [ag]; exact xu.self.cell 1) ?_);have RB:=dm.len;have hNw:ql W 1 q m cc (es.map I):=by
   cases q with
   | none=>
    obtain ⟨e1,e2⟩:=zo dm;subst e1; subst e2;exact Or.inl ⟨rfl,rfl,hqn rfl,rfl⟩
   | some a=>exact zm dm
  have Xg:=VN.w;have OT:=VN.a;refine az adw (afO xu dm hNw (by omega) (λj hj h0 hh=>by rw [(XJ j (hqB j hj h0)).1] at hh; exact absurd hh (by decide)) hef (by
   have:i*1048577<=1048576*1048577:=Nat.mul_le_mul_right _ (by omega);omega) (by omega) false) λe cK ⟨he,alX⟩=>⟨_,_,he,?_⟩
  obtain ⟨o10,h10,r10,a10,fD,e10,n10⟩:=alX.nine (by decide);have af7:Ag w o o10:=uQ.trans a10 zW;have af8:=eW (T:=AZ) (by decide) CG uQ fD;have z10:=fD.size;have Ye:cQ cK q m es:=zw dm fD λj hj h0 hh=>by
   have jP:o1 j=-2:=hh;rw [(XJ j (hqB j hj h0)).1] at jP; exact absurd jP (by decide)
  refine az aiY (abp Ye (by omega) hef) λe dB ⟨r,he,hr,gF⟩=>⟨r,he,?_⟩
  have r11:=r10.aa gF;have abh:=af8.ak gF;have etb:E9 es=r:=by
   rw [Bool.eq_iff_iff,BE]; exact hr.symm
  cases r with
  | true=>
   refine aX rfl ⟨o10,h10,?_,af7,abh⟩;have:cG S1 es=eU S1 es:=by unfold cG; rw [if_pos etb]
   rw [this]; exact r11
  | false=>
   have etn:¬E9 es=true:=by rw [etb]; decide
   refine aT rfl (az O8 (dw.Bp (zw Ye gF λ_ _ _ h=>h) (by omega)) λe dF ⟨v,L,he,hT,tp,tc,hv,af9,htn,fF⟩=>?_);subst hv;have eL:L=dL es:=hT.uniq (lI hef) λx _=>Iff.rfl;subst eL;refine ⟨tp,_,tc,he,?_⟩;have Yf:=gF.ak fF;have z12:=Yf.size;have z11:=gF.size;refine aD λsE eA aly VA gQ=>?_;have z13:=gQ.size;have Yg:=Yf.ak gQ;have r13:=r10.aa Yg;have SY:=af9.lt;have alY:∀(i:Nat) (ids:List Nat),S1.lists[i]?=some ids->∀k∈ids,k<S1.H.length:=λi ids hi k hk=>VN.wf.lt1 hi hk;have hOt:=af9.aa gQ;obtain ⟨o13,Q1,aga,t13,IB,WM,est,ebk⟩:=r13.Kk (bb:=sE) (x:=(tp,(dL es).length,tc)) (d:=cE S1 es) VA (r10.wj sE (by omega)) (aL hOt) (λj hj=>⟨r10.wj j (by have:=htn j hj; omega),by have:=SY j hj; omega,by have:=SY j hj; omega⟩) alY VN.wf.sh VN.wf.le;have IB:Q1.hb S1.H.length=sE:=IB;have a13:Ag cK o10 o13:=λj hj=>by
    rcases t13 j with h1 | h1 | h1
    ·exact h1
    ·omega
    ·have:=htn j h1; omega
   have VO:Ag w o o13:=af7.trans a13 (by omega);have agb:=af8.ak Yg;have c1:∀{V:World} {K:Option Addr->Nat->Nat->Prop},af aq eA V->K tp (dL es).length tc->aZ V ((⟨sE,0,none⟩:Addr).add 1) K:=λ{V K} hk hK=>by
    rw [ag]; exact au ((VA.aa hk).cell 1) hK
   refine c1 (af.refl _ _) ?_;have hdK:((eU S1 es).H++[cE S1 es])[S1.H.length]?=some (cE S1 es):=by
    show (S1.H++[_])[S1.H.length]?=_;rw [List.getElem?_append_right (Nat.le_refl _),Nat.sub_self]; rfl
   refine aF (λhq=>?_) λhq=>?_
   ·have hq:(dL es).length<2:=by
     have:((dL es).length:Int)<2:=by simpa using hq
     omega
    have hP:=abq aga (k:=S1.H.length) (by have:=VN.s; show S1.short.length<=_; omega) (K:=λW'=>∃(o2:Nat->Int) (h2:Hs),Rp dU W' b o2 h2 (cG S1 es)/\Ag w o o2/\af (λi=>cA (o i)) w W') λeM ⟨o16,h16,r16,a16,sJ,e16⟩=>⟨o16,h16,?_,VO.trans a16 (by omega),eW (T:=Dt) (by intro hh; rcases hh with hh | hh<;>omega) agb VO sJ⟩
    ·rw [IB] at hP;exact hP
    ·have:cG S1 es={eU S1 es with H:=S1.H++[cE S1 es],short:=S1.short++[S1.H.length]}:=by unfold cG; rw [if_neg etn,if_pos hq]
     rw [this]; exact r16
   ·have hq:¬(dL es).length<2:=by
     have:¬((dL es).length:Int)<2:=by simpa using hq
     omega
    have kd:af aq eA eA.drew:=(af.refl _ _).drew;have hRt:=aL (hOt.aa kd);refine c1 kd (hRt.ix (i:=0) (by show 0<(dL es).length; omega) λa x hx ha=>ah ha (c1 kd ?_));refine hRt.ix (i:=1) (by show 1<(dL es).length; omega) λa' y hy ha'=>ah ha' ?_;have lU:(dL es).headD 0=x:=by
     cases ht:dL es with
     | nil=>rw [ht] at hx; simp at hx
     | cons z zs=>rw [ht] at hx; simpa using hx
    have oy:(dL es).tail.headD 0=y:=by
     cases ht:dL es with
     | nil=>rw [ht] at hy; simp at hy
     | cons z zs=>cases zs with
      | nil=>rw [ht] at hy; simp at hy
      | cons z' zs'=>rw [ht] at hy; simpa using hy
    have EM:Wi S1.nv x:=hew x ((hT.mem x).1 (List.mem_of_getElem? hx)).1;have hyw:Wi S1.nv y:=hew y ((hT.mem y).1 (List.mem_of_getElem? hy)).1;have rd:=aga.aa kd;have h28:=J5 rd (k:=S1.H.length) (d:=cE S1 es) hdK (a:=x) (c:=y) EM hyw (λi ids hi=>by have:=VN.wf.len (i:=i) (ids:=ids) hi; have:=VN.h; omega) (λhh=>hh) (λhh=>hh);rw [IB] at h28;refine az aen h28 λe fe ⟨he,o17,h17,r17,a17,kz,e17⟩=>⟨he,o17,h17,?_,?_,eW (T:=sI) (by intro hh; rcases hh with hh | hh | hh<;>omega) (agb.ak kd) VO kz⟩
    ·have:cG S1 es=gC {eU S1 es with H:=S1.H++[cE S1 es]} S1.H.length (cE S1 es) x y:=by unfold cG; rw [if_neg etn,if_neg hq,lU,oy]
     rw [this]; exact r17
    ·exact VO.trans a17 (by have:=kd.size; omega)
 ·have bL:i=av.length:=by
   have:¬(i:Int)<(n:Int):=by simpa using bL
   omega
  subst bL;rw [List.take_length] at pn;refine hK W ⟨o1,h1,?_,uQ,CG⟩;rw [pn]; exact xu
end bp
end Go.Proofs.YtagkgfmddflodaaGreat

