/- slices.SortFunc over ints: heap sort, and the insertion sort that gives up. -/

import Derived.Test.YtmhjehodfggleaaGreatMSort2
import Derived.Laws.Bits64
import Derived.Test.YtmhjehodfggleaaGreatMVcM
import Derived.Lib.SliceRun
import Derived.Test.YtmhjehodfggleaaGreatProg
import Derived.Test.YtmhjehodfggleaaGreatMTTrail
set_option linter.unusedVariables false
set_option linter.unusedSimpArgs false
set_option maxRecDepth 100000
namespace Go.Proofs.YtmhjehodfggleaaGreat.Sort
open Go Go.Proofs.YtmhjehodfggleaaGreat.Vc Go.Proofs.YtmhjehodfggleaaGreat.T
section
variable {w0 w:World} {p:Option Addr} {n c:Nat} {S:Int→Prop} {lt:Int→Int→Bool} {f:Value} {z:List Int}
theorem not_lt_of {x:Int} {b:Bool} (hx:x<0↔b=true) (h:¬x<0):b=false:=by
 cases b with
 | true=>exact absurd (hx.2 rfl) h
 | false=>rfl
def Hp (lt:Int→Int→Bool) (fs lo hi:Nat) (z:List Int):Prop:=∀q,1≤q→q<hi→lo≤(q - 1) / 2→lt (g z (fs+(q - 1) / 2)) (g z (fs+q))=false
def Hq (lt:Int→Int→Bool) (fs lo hi r:Nat) (z:List Int):Prop:=∀q,1≤q→q<hi→lo≤(q - 1) / 2→(q - 1) / 2≠r→lt (g z (fs+(q - 1) / 2)) (g z (fs+q))=false
theorem sift (cm:Cm w0 p f S lt) (hn:n≤1152921504606846976) (h:Ar w0 p n c S w z) {lo hi fs:Nat} (hhi:fs+hi≤n) (hlo:lo≤hi) (hq:Hq lt fs lo hi lo z) :
  Calls Tryz.prog 177 #[.slice p n c,J lo,J hi,J fs,f] w fun e w'=>e=.returned (.tuple #[])∧Res w0 p n c S (fs+lo) (fs+hi) z (Hp lt fs lo hi) w w':=by
 refine (V177_calls p n c lo hi fs f w (fun v w'=>v=.tuple #[]∧Res w0 p n c S (fs+lo) (fs+hi) z (Hp lt fs lo hi) w w') ?_).mono fun e w' ⟨v,he,hv,hk⟩=>⟨by rw [he,hv],hk⟩
 unfold V177
 refine lp_of (fun s w1=>∃(r:Nat) (z1:List Int),s.1=r∧lo≤r∧r≤hi∧Ar w0 p n c S w1 z1∧SP (fs+lo) (fs+hi) z z1∧Hq lt fs lo hi r z1∧
   (r=lo∨(1≤r∧lo≤(r - 1) / 2∧∀q,1≤q→q<hi→(q - 1) / 2=r→lt (g z1 (fs+(r - 1) / 2)) (g z1 (fs+q))=false))∧Keep (ob p) w w1) (fun s _=>(hi - s.1).toNat)
  ⟨lo,z,rfl,Nat.le_refl _,hlo,h,SP.refl _ _ _,hq,Or.inl rfl,Keep.refl _ _⟩ ?_
 rintro ⟨r',⟨⟩⟩ w1 ⟨r,z1,rfl,hr,hrh,h1,sp1,hq1,hg1,k1⟩
 simp only []
 have hl:=h1.len
 have e1:IntKind.wrap .i64 ((IntKind.wrap .i64 (2*(r:Int)))+1)=((2*r+1:Nat):Int):=by rw [wrp (x:=2*(r:Int)) (by omega),wrp (by omega)]; omega
 have e2:IntKind.wrap .i64 (((2*r+1:Nat):Int)+1)=((2*r+2:Nat):Int):=by rw [wrp (by omega)]; omega
 have e3:IntKind.wrap .i64 ((fs:Int)+((2*r+1:Nat):Int))=((fs+(2*r+1):Nat):Int):=by rw [wrp (by omega)]; omega
 have e4:IntKind.wrap .i64 (((fs+(2*r+1):Nat):Int)+1)=((fs+(2*r+2):Nat):Int):=by rw [wrp (by omega)]; omega
 have e5:IntKind.wrap .i64 ((fs:Int)+(r:Int))=((fs+r:Nat):Int):=by rw [wrp (by omega)]; omega
 rw [e1,e2,e3,e4,e5]
 refine pif_of (fun hge=>?_) fun hlt=>?_
 ·have hge:hi≤2*r+1:=by simp at hge; omega
  refine ⟨by first | rfl | trivial,z1,h1,sp1,fun q a1 a2 a3=>hq1 q a1 a2 a3 (by omega),k1⟩
 ·have hlt:2*r+1<hi:=by simp at hlt; omega
  -- the greater one below
  refine ⟨fun s w2=>∃m:Nat,s.1=m∧(m=2*r+1∨m=2*r+2)∧m<hi∧(∀q,1≤q→q<hi→(q - 1) / 2=r→lt (g z1 (fs+m)) (g z1 (fs+q))=false)∧Ar w0 p n c S w2 z1∧Keep None w1 w2,?_,?_⟩
  ·refine h1.drew.cmpG cm (i:=fs+(2*r+1)) (j:=fs+(2*r+2)) (fun hb=>?_) (fun hb x w3 hx h3 k3=>?_) (fun hb=>?_)
   ·have hb:2*r+2<hi:=by simp at hb; omega
    exact ⟨rfl,rfl,by omega,by omega⟩
   ·have hb':2*r+2<hi:=by simp at hb; omega
    have kk:Keep None w1 w3:=(Keep.refl _ w1).drew.then0 k3
    rw [hb]
    refine pif_of (fun hc=>?_) fun hc=>?_
    ·have hc:x<0:=by simpa using hc
     refine ⟨2*r+2,rfl,Or.inr rfl,hb',fun q a1 a2 a3=>?_,h3,kk⟩
     rcases (show q=2*r+1∨q=2*r+2 by omega) with rfl | rfl
     ·exact cm.asym _ _ (h1.s (by omega)) (h1.s (by omega)) (hx.1 hc)
     ·exact lt_irr cm (h1.s (by omega))
    ·have hc:¬x<0:=by simpa using hc
     refine ⟨2*r+1,rfl,Or.inl rfl,hlt,fun q a1 a2 a3=>?_,h3,kk⟩
     rcases (show q=2*r+1∨q=2*r+2 by omega) with rfl | rfl
     ·exact lt_irr cm (h1.s (by omega))
     ·exact not_lt_of hx hc
   ·have hb':¬2*r+2<hi:=by simp at hb; omega
    rw [hb]
    refine pif_f rfl ⟨2*r+1,rfl,Or.inl rfl,hlt,fun q a1 a2 a3=>?_,h1.drew,(Keep.refl _ w1).drew⟩
    obtain rfl:q=2*r+1:=by omega
    exact lt_irr cm (h1.s (by omega))
  ·rintro ⟨m',⟨⟩⟩ w2 ⟨m,rfl,hm,hmh,big,h2,k2⟩
   simp only []
   have e6:IntKind.wrap .i64 ((fs:Int)+(m:Int))=((fs+m:Nat):Int):=by rw [wrp (by omega)]; omega
   rw [e6]
   refine h2.drew.cmp cm (by omega) (by omega) fun x w3 hx h3 k3=>?_
   have kk:Keep (ob p) w w3:=(k1.then0 k2).drew.then0 k3
   refine pif_of (fun hc=>?_) fun hc=>?_
   ·have hc:¬x<0:=by simpa using hc
    have hno:=not_lt_of hx hc
    refine ⟨by first | rfl | trivial,z1,h3,sp1,fun q a1 a2 a3=>?_,kk⟩
    by_cases hqr:(q - 1) / 2=r
    ·rw [hqr]
     exact cm.trans _ _ _ (h1.s (by omega)) (h1.s (by omega)) (h1.s (by omega)) (big q a1 a2 hqr) hno
    ·exact hq1 q a1 a2 a3 hqr
   ·have hc:x<0:=by simpa using hc
    have hyes:=hx.1 hc
    refine h3.drew.swap (by omega) (by omega) fun w4 h4 k4=>?_
    have vw:∀k,g (swp z1 (fs+m) (fs+r)) (fs+k)=if k=m then g z1 (fs+r) else if k=r then g z1 (fs+m) else g z1 (fs+k):=fun k=>by
     rw [g_swp (by omega) (by omega)]
     by_cases hk:k=m
     ·rw [if_pos hk,if_pos (by omega)]
     ·rw [if_neg hk,if_neg (by omega)]
      by_cases hk2:k=r
      ·rw [if_pos hk2,if_pos (by omega)]
      ·rw [if_neg hk2,if_neg (by omega)]
    refine ⟨⟨m,swp z1 (fs+m) (fs+r),rfl,by omega,by omega,h4,sp1.trans (SP.swap (by have:=sp1.len; have:=h1.len; omega) ⟨by omega,by omega⟩ ⟨by omega,by omega⟩),fun q a1 a2 a3 a4=>?_,Or.inr ⟨by omega,by omega,fun q a1 a2 a3=>?_⟩,kk.drew.trans k4 fun _ _ h=>h⟩,by omega⟩
    ·rw [vw,vw,if_neg a4]
     by_cases hqr:(q - 1) / 2=r
     ·rw [if_pos hqr]
      by_cases hqm:q=m
      ·rw [if_pos hqm]; exact cm.asym _ _ (h1.s (by omega)) (h1.s (by omega)) hyes
      ·rw [if_neg hqm,if_neg (by omega)]; exact big q a1 a2 hqr
     ·rw [if_neg hqr,if_neg (show ¬q=m by omega)]
      by_cases hqr2:q=r
      ·rw [if_pos hqr2]
       subst hqr2
       rcases hg1 with hg | ⟨g1,g2,g3⟩
       ·omega
       ·exact g3 m (by omega) hmh (by omega)
      ·rw [if_neg hqr2]; exact hq1 q a1 a2 a3 hqr
    ·have er:(m - 1) / 2=r:=by omega
     rw [er,vw,vw,if_neg (show ¬r=m by omega),if_pos rfl,if_neg (show ¬q=m by omega),if_neg (show ¬q=r by omega)]
     have:=hq1 q a1 a2 (by omega) (by omega)
     rw [a3] at this
     exact this
theorem root_max (cm:Cm w0 p f S lt) (h:Ar w0 p n c S w z) {fs k:Nat} (hk:fs+k≤n) (hp:Hp lt fs 0 k z):∀q,q<k→lt (g z fs) (g z (fs+q))=false:=by
 intro q
 induction q using Nat.strongRecOn with
 | ind q ih=>
  intro hq
  by_cases h0:q=0
  ·subst h0; exact lt_irr cm (h.s (by omega))
  ·have h1:=ih ((q - 1) / 2) (by omega) (by omega)
   have h2:=hp q (by omega) hq (Nat.zero_le _)
   exact cm.trans _ _ _ (h.s (by omega)) (h.s (by omega)) (h.s (by omega)) h2 h1
theorem heap (cm:Cm w0 p f S lt) (hn:n≤1152921504606846976) (h:Ar w0 p n c S w z) {a b:Nat} (hab:a<b) (hb:b≤n) :
  Calls Tryz.prog 153 #[.slice p n c,J a,J b,f] w fun e w'=>e=.returned (.tuple #[])∧Res w0 p n c S a b z (Sorted lt a b) w w':=by
 refine (V153_calls p n c a b f w (fun v w'=>v=.tuple #[]∧Res w0 p n c S a b z (Sorted lt a b) w w') ?_).mono fun e w' ⟨v,he,hv,hk⟩=>⟨by rw [he,hv],hk⟩
 unfold V153
 obtain ⟨hi,rfl⟩:∃hi,b=a+hi:=⟨b - a,by omega⟩
 have e1:IntKind.wrap .i64 (((a+hi:Nat):Int) - (a:Int))=(hi:Int):=by rw [wrp (by omega)]; omega
 rw [e1,wrm1 (by omega) (by omega)]
 have e2:IntKind.wrap .i64 (Int.tdiv ((hi - 1:Nat):Int) 2)=(((hi - 1) / 2:Nat):Int):=by
  rw [Int.tdiv_eq_ediv_of_nonneg (by omega),wrp (by omega)]; omega
 rw [e2]
 refine lp_of (fun s w1=>∃(k:Nat) (z1:List Int),s.1=(k:Int) - 1∧k≤hi∧Ar w0 p n c S w1 z1∧SP a (a+hi) z z1∧Hp lt a k hi z1∧Keep (ob p) w w1) (fun s _=>(s.1+1).toNat)
  ⟨(hi - 1) / 2+1,z,by simp,by omega,h,SP.refl _ _ _,fun q a1 a2 a3=>by omega,Keep.refl _ _⟩ ?_
 rintro ⟨k',⟨⟩⟩ w1 ⟨k,z1,rfl,hk,h1,sp1,hp1,k1⟩
 simp only []
 refine pif_of (fun hge=>?_) fun hlt=>?_
 ·have hge:1≤k:=by simp at hge; omega
  have ek:(k:Int) - 1=((k - 1:Nat):Int):=by omega
  rw [ek]
  have hq:Hq lt a (k - 1) hi (k - 1) z1:=fun q a1 a2 a3 a4=>hp1 q a1 a2 (by omega)
  refine cl_of ok177 (sift cm hn h1 hb (by omega) hq) fun e w2 ⟨he,z2,h2,sp2,hp2,k2⟩=>⟨he,?_⟩
  have e3:IntKind.wrap .i64 (((k - 1:Nat):Int) - 1)=((k - 1:Nat):Int) - 1:=by rw [wrp (by omega)]
  rw [e3]
  exact ⟨⟨k - 1,z2,rfl,by omega,h2,sp1.trans (sp2.mono (by omega) (Nat.le_refl _)),hp2,k1.trans k2 fun _ _ h=>h⟩,by omega⟩
 ·have hk0:k=0:=by simp at hlt; omega
  subst hk0
  refine lp_of (fun s w2=>∃(k:Nat) (z2:List Int),s.1=(k:Int) - 1∧k≤hi∧Ar w0 p n c S w2 z2∧SP a (a+hi) z z2∧Hp lt a 0 k z2∧(∀i j,i<j→k≤j→j<hi→lt (g z2 (a+j)) (g z2 (a+i))=false)∧Keep (ob p) w w2) (fun s _=>(s.1+1).toNat)
   ⟨hi,z1,by simp; omega,Nat.le_refl _,h1,sp1,hp1,fun i j a1 a2 a3=>by omega,k1⟩ ?_
  rintro ⟨k',⟨⟩⟩ w2 ⟨k,z2,rfl,hk,h2,sp2,hp2,so2,k2⟩
  simp only []
  refine pif_of (fun hge=>?_) fun hlt=>?_
  ·have hge:1≤k:=by simp at hge; omega
   obtain ⟨m,rfl⟩:∃m,k=m+1:=⟨k - 1,by omega⟩
   have ek:((m+1:Nat):Int) - 1=(m:Int):=by omega
   rw [ek]
   have hl:=h2.len
   have e3:IntKind.wrap .i64 ((a:Int)+(m:Int))=((a+m:Nat):Int):=by rw [wrp (by omega)]; omega
   rw [e3]
   refine h2.drew.swap (by omega) (by omega) fun w3 h3 k3=>?_
   have hl3:=h3.len
   have vw:∀k,g (swp z2 (a+m) a) (a+k)=if k=m then g z2 a else if k=0 then g z2 (a+m) else g z2 (a+k):=fun k=>by
    rw [g_swp (by omega) (by omega)]
    by_cases hk:k=m
    ·rw [if_pos hk,if_pos (by omega)]
    ·rw [if_neg hk,if_neg (by omega)]
     by_cases hk2:k=0
     ·rw [if_pos hk2,if_pos (by omega)]
     ·rw [if_neg hk2,if_neg (by omega)]
   have rm:=root_max cm h2 (by omega) hp2
   have so3:∀i j,i<j→m≤j→j<hi→lt (g (swp z2 (a+m) a) (a+j)) (g (swp z2 (a+m) a) (a+i))=false:=fun i j a1 a2 a3=>by
    rw [vw,vw]
    by_cases hj:j=m
    ·rw [if_pos hj,if_neg (by omega)]
     by_cases hi0:i=0
     ·rw [if_pos hi0]; exact rm m (by omega)
     ·rw [if_neg hi0]; exact rm i (by omega)
    ·rw [if_neg hj,if_neg (by omega)]
     by_cases him:i=m
     ·rw [if_pos him]; have:=so2 0 j (by omega) (by omega) a3; rwa [Nat.add_zero] at this
     ·rw [if_neg him]
      by_cases hi0:i=0
      ·rw [if_pos hi0]; exact so2 m j (by omega) (by omega) a3
      ·rw [if_neg hi0]; exact so2 i j a1 (by omega) a3
   have hq3:Hq lt a 0 m 0 (swp z2 (a+m) a):=fun q a1 a2 a3 a4=>by
    rw [vw,vw,if_neg (by omega),if_neg a4,if_neg (by omega),if_neg (by omega)]
    exact hp2 q a1 (by omega) a3
   have sp3:SP a (a+hi) z (swp z2 (a+m) a):=sp2.trans (SP.swap (by omega) ⟨by omega,by omega⟩ ⟨by omega,by omega⟩)
   have k03:Keep (ob p) w w3:=k2.drew.trans k3 fun _ _ h=>h
   generalize swp z2 (a+m) a=z3 at *
   have hsf:=sift cm hn h3 (lo:=0) (hi:=m) (fs:=a) (by omega) (Nat.zero_le _) hq3
   refine cl_of ok177 hsf fun e w4 ⟨he,z4,h4,sp4,hp4,k4⟩=>⟨he,?_⟩
   have e4:IntKind.wrap .i64 ((m:Int) - 1)=(m:Int) - 1:=by rw [wrp (by omega)]
   rw [e4]
   refine ⟨⟨m,z4,rfl,by omega,h4,sp3.trans (sp4.mono (by omega) (by omega)),hp4,fun i j a1 a2 a3=>?_,k03.trans k4 fun _ _ h=>h⟩,by omega⟩
   have ej:g z4 (a+j)=g z3 (a+j):=sp4.out _ (Or.inr (by omega))
   rw [ej]
   by_cases him:i<m
   ·exact sp4.all (by omega) (P:=fun y=>lt (g z3 (a+j)) y=false) (fun q b1 b2=>by
     have:=so3 (q - a) j (by omega) a2 a3
     rwa [show a+(q - a)=q by omega] at this) (a+i) (by omega) (by omega)
   ·rw [sp4.out (a+i) (Or.inr (by omega))]; exact so3 i j a1 a2 a3
  ·have hk0:k=0:=by simp at hlt; omega
   subst hk0
   refine ⟨by first | rfl | trivial,z2,h2,sp2,fun i j a1 a2 a3=>?_,k2⟩
   have:=so2 (i - a) (j - a) (by omega) (by omega) (by omega)
   rwa [show a+(j - a)=j by omega,show a+(i - a)=i by omega] at this
theorem pin (cm:Cm w0 p f S lt) (hn:n≤1152921504606846976) (h:Ar w0 p n c S w z) {a b:Nat} (hab:a<b) (hb:b≤n) (hpre:0<a→∀k,a≤k→k<b→lt (g z k) (g z (a - 1))=false) :
  Calls Tryz.prog 157 #[.slice p n c,J a,J b,f] w fun e w'=>∃t:Bool,e=.returned (.bool t)∧Res w0 p n c S a b z (fun z'=>t=true→Sorted lt a b z') w w':=by
 refine (V157_calls p n c a b f w (fun v w'=>∃t:Bool,v=.bool t∧Res w0 p n c S a b z (fun z'=>t=true→Sorted lt a b z') w w') ?_).mono fun e w' ⟨v,he,t,hv,hk⟩=>⟨t,by rw [he,hv],hk⟩
 unfold V157
 rw [wrp1 (by omega)]
 have hl:=h.len
 refine lp_of (fun s w1=>∃(i m:Nat) (z1:List Int),s.1=i∧s.2.1=m∧m≤5∧a+1≤i∧i≤b∧Ar w0 p n c S w1 z1∧SP a b z z1∧Sorted lt a i z1∧Keep (ob p) w w1) (fun s _=>(5 - s.2.1).toNat)
  ⟨a+1,0,z,rfl,rfl,by omega,Nat.le_refl _,by omega,h,SP.refl _ _ _,fun i j a1 a2 a3=>by omega,Keep.refl _ _⟩ ?_
 rintro ⟨i',m',⟨⟩⟩ w1 ⟨i0,m,z1,rfl,rfl,hm,hi1,hi2,h1,sp1,so1,k1⟩
 simp only []
 have hl1:=h1.len
 refine pif_of (fun hlt=>?_) fun hge=>⟨false,rfl,z1,h1,sp1,(fun hh=>by cases hh),k1⟩
 have hm5:m<5:=by simp at hlt; omega
 refine ⟨fun s w2=>∃(i:Nat) (z2:List Int),s.1=i∧a+1≤i∧i≤b∧Ar w0 p n c S w2 z2∧SP a b z z2∧Sorted lt a i z2∧Keep (ob p) w w2,?_,?_⟩
 ·refine lp_of (fun s w3=>∃i:Nat,s.1=i∧a+1≤i∧i≤b∧Ar w0 p n c S w3 z1∧Sorted lt a i z1∧Keep (ob p) w w3) (fun s _=>(b - s.1).toNat) ⟨i0,rfl,hi1,hi2,h1,so1,k1⟩ ?_
  rintro ⟨i',⟨⟩⟩ w3 ⟨i,rfl,hi1,hi2,h3,so3,k3⟩
  simp only []
  -- behind the scan
  have fin:∀{w5:World} {x:Int} {cc:Bool},cc=false→Ar w0 p n c S w5 z1→Keep (ob p) w w5→True:=fun _ _ _=>trivial
  refine h3.drew.cmpG cm (i:=i) (j:=i - 1) (fun hbb=>?_) (fun hbb x w5 hx h5 k5=>?_) (fun hbb=>?_)
  ·have hbb:i<b:=by simpa using hbb
   exact ⟨rfl,wrm1 (by omega) (by omega),by omega,by omega⟩
  ·have hib:i<b:=by simpa using hbb
   have kk:Keep (ob p) w w5:=k3.drew.then0 k5
   rw [hbb]
   refine pif_of (fun hc=>?_) fun hc=>?_
   ·have hc:¬x<0:=by simpa using hc
    have hno:=not_lt_of hx hc
    rw [wrp1 (by omega)]
    refine ⟨⟨i+1,rfl,by omega,by omega,h5,fun u v a1 a2 a3=>?_,kk⟩,by omega⟩
    by_cases hv:v=i
    ·subst hv
     by_cases hu:u=v - 1
     ·subst hu; exact hno
     ·exact cm.trans _ _ _ (h1.s (by omega)) (h1.s (by omega)) (h1.s (by omega)) (so3 u (v - 1) a1 (by omega) (by omega)) hno
    ·exact so3 u v a1 a2 (by omega)
   ·have hc:x<0:=by simpa using hc
    have hyes:=hx.1 hc
    refine pif_f (by simp; omega) (pif_of (fun _=>⟨false,rfl,z1,h5,sp1,(fun hh=>by cases hh),kk⟩) fun _=>?_)
    rw [wrm1 (by omega) (by omega)]
    refine h5.drew.swap (by omega) (by omega) fun w6 h6 k6=>?_
    have sp6:SP a b z (swp z1 (i - 1) i):=sp1.trans (SP.swap (by omega) ⟨by omega,by omega⟩ ⟨by omega,by omega⟩)
    have k06:Keep (ob p) w w6:=kk.drew.trans k6 fun _ _ h=>h
    have hpre6:0<a→∀k,a≤k→k<b→lt (g (swp z1 (i - 1) i) k) (g z (a - 1))=false:=fun ha=>sp6.all (by omega) (P:=fun y=>lt y (g z (a - 1))=false) (hpre ha)
    have so6:Sorted lt a (i - 1) (swp z1 (i - 1) i):=fun u v a1 a2 a3=>by
     rw [g_swp (by omega) (by omega),g_swp (by omega) (by omega),if_neg (by omega),if_neg (by omega),if_neg (by omega),if_neg (by omega)]
     exact so3 u v a1 a2 (by omega)
    generalize swp z1 (i - 1) i=z2 at *
    refine ⟨fun _ w8=>∃z3,Ar w0 p n c S w8 z3∧SP a b z z3∧Sorted lt a i z3∧Keep (ob p) w w8,?_,?_⟩
    ·have ei:IntKind.wrap .i64 ((i:Int) - (a:Int))=((i - a:Nat):Int):=by rw [wrp (by omega)]; omega
     rw [ei]
     refine pif_of (fun h2=>?_) fun h2=>?_
     ·have h2:a+2≤i:=by simp at h2; omega
      refine lp_of (fun s w9=>∃(j:Nat) (z3:List Int),s.1=j∧a≤j∧j<i∧Ar w0 p n c S w9 z3∧SP a b z z3∧(∀u v,a≤u→u<v→v<i→v≠j→lt (g z3 v) (g z3 u)=false)∧Keep (ob p) w w9) (fun s _=>s.1.toNat)
       ⟨i - 1,z2,rfl,by omega,by omega,h6,sp6,fun u v a1 a2 a3 a4=>so6 u v a1 a2 (by omega),k06⟩ ?_
      rintro ⟨j',⟨⟩⟩ w9 ⟨j,z3,rfl,hj1,hj2,h9,sp9,so9,k9⟩
      simp only []
      have hl9:=h9.len
      have done:(j=a∨(a<j∧lt (g z3 j) (g z3 (j - 1))=false))→Sorted lt a i z3:=fun hd u v hu huv hv=>by
       by_cases hvj:v=j
       ·subst hvj
        rcases hd with hd | ⟨hd1,hd2⟩
        ·omega
        ·by_cases hu1:u=v - 1
         ·subst hu1; exact hd2
         ·exact cm.trans _ _ _ (h9.s (by omega)) (h9.s (by omega)) (h9.s (by omega)) (so9 u (v - 1) hu (by omega) (by omega) (by omega)) hd2
       ·exact so9 u v hu huv hv hvj
      refine pif_of (fun hj0=>?_) fun hj0=>?_
      ·have hj0:1≤j:=by simp at hj0; omega
       rw [wrm1 (by omega) hj0]
       refine h9.drew.cmp cm (by omega) (by omega) fun x2 wa hx2 ha ka=>?_
       have kka:Keep (ob p) w wa:=k9.drew.then0 ka
       refine pif_of (fun hc2=>?_) fun hc2=>?_
       ·have hc2:¬x2<0:=by simpa using hc2
        refine ⟨z3,ha,sp9,done ?_,kka⟩
        by_cases hja:j=a
        ·exact Or.inl hja
        ·exact Or.inr ⟨by omega,not_lt_of hx2 hc2⟩
       ·have hc2:x2<0:=by simpa using hc2
        have hyes2:=hx2.1 hc2
        have hja:a<j:=by
         apply Classical.byContradiction
         intro hno
         obtain rfl:j=a:=by omega
         have e1:=sp9.out (j - 1) (Or.inl (by omega))
         have:=sp9.all (by omega) (P:=fun y=>lt y (g z (j - 1))=false) (hpre (by omega)) j (Nat.le_refl _) hab
         rw [e1] at hyes2
         rw [hyes2] at this
         cases this
        refine ha.drew.swap (by omega) (by omega) fun wb hB kb=>?_
        refine ⟨⟨j - 1,swp z3 (j - 1) j,rfl,by omega,by omega,hB,sp9.trans (SP.swap (by omega) ⟨by omega,by omega⟩ ⟨by omega,by omega⟩),fun u v hu huv hv hne=>?_,kka.drew.trans kb fun _ _ h=>h⟩,by omega⟩
        rw [g_swp (by omega) (by omega),g_swp (by omega) (by omega)]
        rw [if_neg hne]
        by_cases hvj:v=j
        ·subst hvj
         rw [if_pos rfl]
         by_cases hu1:u=v - 1
         ·rw [if_pos hu1]; exact cm.asym _ _ (h9.s (by omega)) (h9.s (by omega)) hyes2
         ·rw [if_neg hu1,if_neg (by omega)]; exact so9 u (v - 1) hu (by omega) (by omega) (by omega)
        ·rw [if_neg hvj]
         by_cases hu1:u=j - 1
         ·rw [if_pos hu1]; exact so9 j v (by omega) (by omega) hv hvj
         ·rw [if_neg hu1]
          by_cases huj:u=j
          ·rw [if_pos huj]; exact so9 (j - 1) v (by omega) (by omega) hv hvj
          ·rw [if_neg huj]; exact so9 u v hu huv hv hvj
      ·have hj0:j=0:=by simp at hj0; omega
       exact ⟨z3,h9,sp9,done (Or.inl (by omega)),k9⟩
     ·have h2:i=a+1:=by simp at h2; omega
      exact ⟨z2,h6,sp6,fun u v a1 a2 a3=>by omega,k06⟩
    ·rintro ⟨⟩ w8 ⟨z3,h8,sp8,so8,k8⟩
     have ei:IntKind.wrap .i64 ((b:Int) - (i:Int))=((b - i:Nat):Int):=by rw [wrp (by omega)]; omega
     rw [ei]
     refine pif_of (fun h2=>?_) fun h2=>⟨i,z3,rfl,hi1,hi2,h8,sp8,so8,k8⟩
     have h2:i+2≤b:=by simp at h2; omega
     rw [wrp1 (by omega)]
     refine lp_of (fun s w9=>∃(j:Nat) (z4:List Int),s.1=j∧i+1≤j∧j≤b∧Ar w0 p n c S w9 z4∧SP a b z z4∧Sorted lt a i z4∧Keep (ob p) w w9) (fun s _=>(b - s.1).toNat)
      ⟨i+1,z3,rfl,Nat.le_refl _,by omega,h8,sp8,so8,k8⟩ ?_
     rintro ⟨j',⟨⟩⟩ w9 ⟨j,z4,rfl,hj1,hj2,h9,sp9,so9,k9⟩
     simp only []
     have hl9:=h9.len
     refine pif_of (fun hjb=>?_) fun hjb=>⟨i,z4,rfl,hi1,hi2,h9,sp9,so9,k9⟩
     have hjb:j<b:=by simpa using hjb
     rw [wrm1 (by omega) (by omega)]
     refine h9.drew.cmp cm (by omega) (by omega) fun x2 wa hx2 ha ka=>?_
     have kka:Keep (ob p) w wa:=k9.drew.then0 ka
     refine pif_of (fun hc2=>⟨i,z4,rfl,hi1,hi2,ha,sp9,so9,kka⟩) fun hc2=>?_
     refine ha.drew.swap (by omega) (by omega) fun wb hB kb=>?_
     rw [wrp1 (by omega)]
     refine ⟨⟨j+1,swp z4 (j - 1) j,rfl,by omega,by omega,hB,sp9.trans (SP.swap (by omega) ⟨by omega,by omega⟩ ⟨by omega,by omega⟩),fun u v a1 a2 a3=>?_,kka.drew.trans kb fun _ _ h=>h⟩,by omega⟩
     rw [g_swp (by omega) (by omega),g_swp (by omega) (by omega),if_neg (by omega),if_neg (by omega),if_neg (by omega),if_neg (by omega)]
     exact so9 u v a1 a2 a3
  ·have hib:i=b:=by simp at hbb; omega
   subst hib
   rw [hbb]
   exact pif_f rfl (pif_t (by simp) ⟨true,rfl,z1,h3.drew,sp1,fun _=>so3,k3.drew⟩)
 ·rintro ⟨i',⟨⟩⟩ w2 ⟨i,z2,rfl,a1,a2,h2,sp2,so2,k2⟩
  simp only []
  rw [wrp1 (by omega)]
  exact ⟨⟨i,m+1,z2,rfl,rfl,by omega,a1,a2,h2,sp2,so2,k2⟩,by omega⟩
end
end Go.Proofs.YtmhjehodfggleaaGreat.Sort

/- slices.SortFunc over ints: the pivot, the broken pattern, and the whole. -/

set_option linter.unusedVariables false
set_option linter.unusedSimpArgs false
set_option maxRecDepth 100000
namespace Go.Proofs.YtmhjehodfggleaaGreat.Sort
open Go Go.Proofs.YtmhjehodfggleaaGreat.Vc Go.Proofs.YtmhjehodfggleaaGreat.T
def blen (n:Nat):Nat:=if n=0 then 0 else Nat.log2 n+1
theorem blen_low {n:Nat} (h:0<n):2 ^ (blen n - 1)≤n:=by
 unfold blen; rw [if_neg (by omega)]; exact Nat.log2_self_le (by omega)
theorem blen_high {n:Nat} (h:0<n):n<2 ^ blen n:=by
 unfold blen; rw [if_neg (by omega)]; exact Nat.lt_log2_self
theorem blen_pos {n:Nat} (h:0<n):0<blen n:=by unfold blen; rw [if_neg (by omega)]; omega
theorem blen_of {n k:Nat} (h1:2 ^ k≤n) (h2:n<2 ^ (k+1)):blen n=k+1:=by
 have hp:0<2 ^ k:=Nat.two_pow_pos k
 unfold blen
 rw [if_neg (by omega),(Nat.log2_eq_iff (by omega)).2 ⟨h1,h2⟩]
theorem blen_shift {n v s:Nat} (hv:0<v) (h1:v*2 ^ s≤n) (h2:n<(v+1)*2 ^ s):blen n=s+blen v:=by
 have hb:=blen_pos hv
 have hl:=blen_low hv
 have hh:=blen_high hv
 have e1:s+blen v=(s+(blen v - 1))+1:=by omega
 rw [e1]
 apply blen_of
 ·rw [Nat.pow_add,Nat.mul_comm]
  exact Nat.le_trans (Nat.mul_le_mul_right _ hl) h1
 ·rw [←e1,Nat.pow_add,Nat.mul_comm (2 ^ s)]
  exact Nat.lt_of_lt_of_le h2 (Nat.mul_le_mul_right _ hh)
theorem blen_le {n k:Nat} (h:n<2 ^ k):blen n≤k:=by
 rcases Nat.eq_zero_or_pos n with rfl | hp
 ·simp [blen]
 ·have h1:=blen_low hp
  have h2:2 ^ (blen n - 1)<2 ^ k:=Nat.lt_of_le_of_lt h1 h
  have:=(Nat.pow_lt_pow_iff_right (by omega:1<2)).1 h2
  omega
def tab:ByteArray:=⟨#[0,1,2,2,3,3,3,3,4,4,4,4,4,4,4,4,5,5,5,5,5,5,5,5,5,5,5,5,5,5,5,5,6,6,6,6,6,6,6,6,6,6,6,6,6,6,6,6,6,6,6,6,6,6,6,6,6,6,6,6,6,6,6,6,7,7,7,7,7,7,7,7,7,7,7,7,7,7,7,7,7,7,7,7,7,7,7,7,7,7,7,7,7,7,7,7,7,7,7,7,7,7,7,7,7,7,7,7,7,7,7,7,7,7,7,7,7,7,7,7,7,7,7,7,7,7,7,7,8,8,8,8,8,8,8,8,8,8,8,8,8,8,8,8,8,8,8,8,8,8,8,8,8,8,8,8,8,8,8,8,8,8,8,8,8,8,8,8,8,8,8,8,8,8,8,8,8,8,8,8,8,8,8,8,8,8,8,8,8,8,8,8,8,8,8,8,8,8,8,8,8,8,8,8,8,8,8,8,8,8,8,8,8,8,8,8,8,8,8,8,8,8,8,8,8,8,8,8,8,8,8,8,8,8,8,8,8,8,8,8,8,8,8,8,8,8,8,8,8,8,8,8,8,8,8,8]⟩
theorem tab_at (v:Nat) (h:v<256):byteAt tab (v:Int)=(blen v:Int):=by
 have:∀v:Fin 256,byteAt tab ((v.val:Nat):Int)=(blen v.val:Int):=by decide +kernel
 exact this ⟨v,h⟩
theorem fdiv_nat (n m:Nat):Int.fdiv (n:Int) (m:Int)=((n / m:Nat):Int):=by
 rw [Int.fdiv_eq_ediv_of_nonneg _ (by omega)]; rfl
theorem lenL {n v s:Nat} {R:Value→World→Prop} {w:World} (hv:0<v) (hv2:v<256) (h1:v*2 ^ s≤n) (h2:n<(v+1)*2 ^ s) (hs:s≤56) (h:R (.int .i64 (blen n:Int)) w) :
  0≤(IntKind.wrap .u8 (v:Int))∧(IntKind.wrap .u8 (v:Int))<(tab.size:Int)∧
   R (.int .i64 (IntKind.wrap .i64 ((s:Int)+(IntKind.wrap .i64 (byteAt tab (IntKind.wrap .u8 (v:Int))))))) w:=by
 have hw:IntKind.wrap .u8 (v:Int)=v:=by rw [IntKind.wrap_u8]; omega
 rw [hw,tab_at v hv2]
 have ht:tab.size=256:=by decide +kernel
 have hb:=blen_le (n:=v) (k:=8) (by omega)
 have e1:IntKind.wrap .i64 (blen v:Int)=blen v:=by rw [IntKind.wrap_i64]; omega
 have e2:IntKind.wrap .i64 ((s:Int)+blen v)=((s+blen v:Nat):Int):=by rw [IntKind.wrap_i64]; omega
 rw [e1,e2,←blen_shift hv h1 h2]
 exact ⟨by omega,by rw [ht]; omega,h⟩
theorem len64 (n:Nat) (w:World) (h0:0<n) (h1:n<18446744073709551616) :
  Calls Tryz.prog 161 #[.int .u64 (n:Int)] w fun e w'=>e=.returned (.int .i64 (blen n))∧w'=w:=by
 refine (V161_calls n w (fun v w'=>v=.int .i64 (blen n)∧w'=w) ?_).mono fun e w' ⟨x,he,hv,hk⟩=>⟨by rw [he,hv],hk⟩
 unfold V161
 have p32:(2:Int) ^ (min (Int.toNat 32) (IntKind.bits .u64))=((4294967296:Nat):Int):=by decide +kernel
 have p16:(2:Int) ^ (min (Int.toNat 16) (IntKind.bits .u64))=((65536:Nat):Int):=by decide +kernel
 have p8:(2:Int) ^ (min (Int.toNat 8) (IntKind.bits .u64))=((256:Nat):Int):=by decide +kernel
 have w1:IntKind.wrap .i64 (32+16)=48:=by decide +kernel
 have w2:IntKind.wrap .i64 (0+16)=16:=by decide +kernel
 have w3:IntKind.wrap .i64 (48+8)=56:=by decide +kernel
 have w4:IntKind.wrap .i64 (16+8)=24:=by decide +kernel
 have w5:IntKind.wrap .i64 (32+8)=40:=by decide +kernel
 have w6:IntKind.wrap .i64 (0+8)=8:=by decide +kernel
 refine jn_of ?_
 rw [p32,fdiv_nat]
 refine pif_of (fun a1=>?_) (fun a1=>?_)
 ·have a1:4294967296≤n:=by simp at a1; omega
  refine jn_of ?_
  rw [p16,fdiv_nat,w1]
  refine pif_of (fun a2=>?_) (fun a2=>?_)
  ·have a2:65536≤n / 4294967296:=by simp at a2; omega
   refine jn_of ?_
   rw [p8,fdiv_nat,w3]
   refine pif_of (fun a3=>?_) (fun a3=>?_)
   ·have a3:256≤n / 4294967296 / 65536:=by simp at a3; omega
    exact lenL (R:=fun v w'=>v=.int .i64 (blen n)∧w'=w) (n:=n) (v:=n / 4294967296 / 65536 / 256) (s:=56) (by omega) (by omega) (by omega) (by omega) (by omega) ⟨rfl,rfl⟩
   ·have a3:¬256≤n / 4294967296 / 65536:=by simp at a3; omega
    exact lenL (R:=fun v w'=>v=.int .i64 (blen n)∧w'=w) (n:=n) (v:=n / 4294967296 / 65536) (s:=48) (by omega) (by omega) (by omega) (by omega) (by omega) ⟨rfl,rfl⟩
  ·have a2:¬65536≤n / 4294967296:=by simp at a2; omega
   refine jn_of ?_
   rw [p8,fdiv_nat,w5]
   refine pif_of (fun a3=>?_) (fun a3=>?_)
   ·have a3:256≤n / 4294967296:=by simp at a3; omega
    exact lenL (R:=fun v w'=>v=.int .i64 (blen n)∧w'=w) (n:=n) (v:=n / 4294967296 / 256) (s:=40) (by omega) (by omega) (by omega) (by omega) (by omega) ⟨rfl,rfl⟩
   ·have a3:¬256≤n / 4294967296:=by simp at a3; omega
    exact lenL (R:=fun v w'=>v=.int .i64 (blen n)∧w'=w) (n:=n) (v:=n / 4294967296) (s:=32) (by omega) (by omega) (by omega) (by omega) (by omega) ⟨rfl,rfl⟩
 ·have a1:¬4294967296≤n:=by simp at a1; omega
  refine jn_of ?_
  rw [p16,fdiv_nat,w2]
  refine pif_of (fun a2=>?_) (fun a2=>?_)
  ·have a2:65536≤n:=by simp at a2; omega
   refine jn_of ?_
   rw [p8,fdiv_nat,w4]
   refine pif_of (fun a3=>?_) (fun a3=>?_)
   ·have a3:256≤n / 65536:=by simp at a3; omega
    exact lenL (R:=fun v w'=>v=.int .i64 (blen n)∧w'=w) (n:=n) (v:=n / 65536 / 256) (s:=24) (by omega) (by omega) (by omega) (by omega) (by omega) ⟨rfl,rfl⟩
   ·have a3:¬256≤n / 65536:=by simp at a3; omega
    exact lenL (R:=fun v w'=>v=.int .i64 (blen n)∧w'=w) (n:=n) (v:=n / 65536) (s:=16) (by omega) (by omega) (by omega) (by omega) (by omega) ⟨rfl,rfl⟩
  ·have a2:¬65536≤n:=by simp at a2; omega
   refine jn_of ?_
   rw [p8,fdiv_nat,w6]
   refine pif_of (fun a3=>?_) (fun a3=>?_)
   ·have a3:256≤n:=by simp at a3; omega
    exact lenL (R:=fun v w'=>v=.int .i64 (blen n)∧w'=w) (n:=n) (v:=n / 256) (s:=8) (by omega) (by omega) (by omega) (by omega) (by omega) ⟨rfl,rfl⟩
   ·have a3:¬256≤n:=by simp at a3; omega
    exact lenL (R:=fun v w'=>v=.int .i64 (blen n)∧w'=w) (n:=n) (v:=n) (s:=0) (by omega) (by omega) (by omega) (by omega) (by omega) ⟨rfl,rfl⟩
theorem len64z (w:World):Calls Tryz.prog 161 #[.int .u64 0] w fun e w'=>e=.returned (.int .i64 0)∧w'=w:=by
 refine (V161_calls 0 w (fun v w'=>v=.int .i64 0∧w'=w) ?_).mono fun e w' ⟨x,he,hv,hk⟩=>⟨by rw [he,hv],hk⟩
 unfold V161
 refine jn_of (pif_f rfl (jn_of (pif_f rfl (jn_of (pif_f rfl ?_)))))
 exact ⟨by decide +kernel,by decide +kernel,congrArg (Value.int .i64) (by decide +kernel),rfl⟩
theorem bits_len (n:Nat) (w:World) (h1:n<18446744073709551616) :
  Calls Tryz.prog 134 #[.int .u64 (n:Int)] w fun e w'=>e=.returned (.int .i64 (blen n))∧w'=w:=by
 refine (V134_calls n w (fun v w'=>v=.int .i64 (blen n)∧w'=w) ?_).mono fun e w' ⟨x,he,hv,hk⟩=>⟨by rw [he,hv],hk⟩
 unfold V134
 refine pif_f rfl ?_
 by_cases h0:n=0
 ·subst h0
  exact cl_of ok161 (len64z w) fun e w1 ⟨he,hw⟩=>⟨_,he,by simp [blen],hw⟩
 ·exact cl_of ok161 (len64 n w (by omega) h1) fun e w1 ⟨he,hw⟩=>⟨_,he,rfl,hw⟩
theorem and_range (x:Int) (y:Nat) (hy:y<18446744073709551616):0≤bits .and .u64 x (y:Int)∧bits .and .u64 x (y:Int)≤y:=by
 have h2:(BitVec.ofInt 64 (y:Int)).toNat=y:=by
  rw [BitVec.ofInt_natCast,BitVec.toNat_ofNat]; exact Nat.mod_eq_of_lt (by omega)
 have e:bits .and .u64 x (y:Int)=IntKind.u64.wrap ((BitVec.ofInt 64 x&&& BitVec.ofInt 64 (y:Int)).toNat:Int):=rfl
 rw [e,BitVec.toNat_and,h2]
 have:(BitVec.ofInt 64 x).toNat&&& y≤y:=Nat.and_le_right
 generalize (BitVec.ofInt 64 x).toNat&&& y=q at *
 rw [IntKind.wrap_u64]
 omega
theorem npow (n:Nat) (w:World) (h0:0<n) (h1:n≤1152921504606846976) :
  Calls Tryz.prog 178 #[.int .i64 (n:Int)] w fun e w'=>e=.returned (.int .u64 ((2 ^ blen n:Nat):Int))∧w'=w:=by
 refine (V178_calls n w (fun v w'=>v=.int .u64 ((2 ^ blen n:Nat):Int)∧w'=w) ?_).mono fun e w' ⟨x,he,hv,hk⟩=>⟨by rw [he,hv],hk⟩
 unfold V178
 have e1:IntKind.wrap .u64 (n:Int)=(n:Int):=by rw [IntKind.wrap_u64]; omega
 rw [e1]
 refine cl_of ok134 (bits_len n w (by omega)) fun e w1 ⟨he,hw⟩=>⟨_,he,by omega,?_,hw⟩
 have hb:=blen_le (n:=n) (k:=61) (by omega)
 have e2:min (Int.toNat (blen n:Int)) (IntKind.bits .u64)=blen n:=by
  rw [Int.toNat_natCast]; exact Nat.min_eq_left (Nat.le_trans hb (by decide))
 rw [e2]
 have hp:(2:Nat) ^ blen n≤2 ^ 61:=Nat.pow_le_pow_right (by omega) hb
 have e3:(1:Int)*2 ^ blen n=((2 ^ blen n:Nat):Int):=by rw [Int.one_mul,Int.natCast_pow]; rfl
 rw [e3,IntKind.wrap_u64]
 congr 1
 generalize 2 ^ blen n=q at *
 omega
theorem next {w:World} {b:Nat} {x:Int} (h:Blk w b [.int .u64 x] 224) :
  Calls Tryz.prog 179 #[.pointer (some ⟨b,0,none⟩)] w fun e w'=>∃y:Int,e=.returned (.int .u64 y)∧Blk w' b [.int .u64 y] 224∧Keep (One b) w w':=by
 refine (V179_calls (some ⟨b,0,none⟩) w (fun v w'=>∃y:Int,v=.int .u64 y∧Blk w' b [.int .u64 y] 224∧Keep (One b) w w') ?_).mono fun e w' ⟨v,he,y,hv,hk⟩=>⟨y,by rw [he,hv],hk⟩
 unfold V179
 simp only [add_mk,Nat.zero_add,Nat.add_zero]
 have hd:=h.drew
 refine nn_of (ldI_of (hd.cell 0) (nn_of (ldI_of (hd.cell 0) (nn_of ?_))))
 simp only [add_mk,Nat.zero_add,Nat.add_zero]
 refine st_of hd (by simp) rfl fun w1 h1 k1 _=>?_
 have h1:=h1.drew
 refine nn_of (ldI_of (h1.cell 0) (nn_of (ldI_of (h1.cell 0) (nn_of ?_))))
 simp only [add_mk,Nat.zero_add,Nat.add_zero]
 refine st_of h1 (by simp) rfl fun w2 h2 k2 _=>?_
 have h2:=h2.drew
 refine nn_of (ldI_of (h2.cell 0) (nn_of (ldI_of (h2.cell 0) (nn_of ?_))))
 simp only [add_mk,Nat.zero_add,Nat.add_zero]
 refine st_of h2 (by simp) rfl fun w3 h3 k3 _=>?_
 refine nn_of (ldI_of (h3.cell 0) ⟨_,rfl,h3,?_⟩)
 exact ((Keep.refl _ w).drew.trans k1 fun _ _ h=>h).drew.trans (k2.drew.trans k3 fun _ _ h=>h) fun _ _ h=>h
section
variable {w0 w:World} {p:Option Addr} {n c:Nat} {S:Int→Prop} {lt:Int→Int→Bool} {f:Value} {z:List Int}
theorem Ar.other {w':World} {b:Nat} (h:Ar w0 p n c S w z) (hk:Keep (One b) w w') (hb:w0.heap.size≤b) (hp:¬ob p b):Ar w0 p n c S w' z:=
 ⟨h.own.keep hk fun i hi (e:i=b)=>hp (e ▸ hi),h.kp.then1 hk hb,h.all⟩
theorem brk (hn:n≤1152921504606846976) (h:Ar w0 p n c S w z) {a b:Nat} (hab:a<b) (hb:b≤n) :
  Calls Tryz.prog 154 #[.slice p n c,J a,J b,f] w fun e w'=>e=.returned (.tuple #[])∧Res w0 p n c S a b z (fun _=>True) w w':=by
 refine (V154_calls p n c a b f w (fun v w'=>v=.tuple #[]∧Res w0 p n c S a b z (fun _=>True) w w') ?_).mono fun e w' ⟨v,he,hv,hk⟩=>⟨by rw [he,hv],hk⟩
 unfold V154
 obtain ⟨l,rfl⟩:∃l,b=a+l:=⟨b - a,by omega⟩
 have e1:IntKind.wrap .i64 (((a+l:Nat):Int) - (a:Int))=(l:Int):=by rw [wrp (by omega)]; omega
 rw [e1]
 refine pif_of (fun hge=>?_) fun hlt=>⟨by first | rfl | trivial,z,h,SP.refl _ _ _,trivial,Keep.refl _ _⟩
 have hl8:8≤l:=by simp at hge; omega
 refine alc_at fun r w1 hr hB k1=>?_
 simp only [add_mk,Nat.zero_add,Nat.add_zero]
 have e2:IntKind.wrap .u64 (l:Int)=(l:Int):=by rw [IntKind.wrap_u64]; omega
 rw [e2]
 have hrp:¬ob p r:=fun hh=>by have:=h.own.lt r hh; omega
 have hr0:w0.heap.size≤r:=by have:=h.kp.size; omega
 refine st_of hB (by simp) rfl fun w2 h2 k2 _=>?_
 refine cl_of ok178 (npow l w2 (by omega) (by omega)) fun e w3 ⟨he,hw⟩=>⟨_,he,?_⟩
 subst hw
 have hA:Ar w0 p n c S w3 z:=(h.keep0 k1).other k2 hr0 hrp
 have kk:Keep (ob p) w w3:=(k1.then1 k2 (by omega)).none
 have hbl:=blen_low (n:=l) (by omega)
 have hbh:=blen_high (n:=l) (by omega)
 have hbp:=blen_pos (n:=l) (by omega)
 have hb2:=blen_le (n:=l) (k:=61) (by omega)
 have hpow:2 ^ blen l=2*2 ^ (blen l - 1):=by rw [←Nat.pow_succ']; congr 1; omega
 have hp61:(2:Nat) ^ blen l≤2 ^ 61:=Nat.pow_le_pow_right (by omega) hb2
 generalize 2 ^ (blen l - 1)=half at *
 generalize 2 ^ blen l=M at *
 have e3:IntKind.wrap .u64 ((M:Int) - 1)=((M - 1:Nat):Int):=by rw [IntKind.wrap_u64]; omega
 have e4:Int.tdiv (l:Int) 4=((l / 4:Nat):Int):=by rw [Int.tdiv_eq_ediv_of_nonneg (by omega)]; rfl
 have e5:IntKind.wrap .i64 ((a:Int)+(IntKind.wrap .i64 ((IntKind.wrap .i64 (Int.tdiv (l:Int) 4))*2)))=((a+l / 4*2:Nat):Int):=by
  rw [e4,wrp (x:=((l / 4:Nat):Int)) (by omega),wrp (x:=((l / 4:Nat):Int)*2) (by omega),wrp (by omega)]; omega
 rw [e5,e3]
 have e6:IntKind.wrap .i64 (((a+l / 4*2:Nat):Int) - 1)=((a+l / 4*2 - 1:Nat):Int):=wrm1 (by omega) (by omega)
 have e7:IntKind.wrap .i64 (((a+l / 4*2:Nat):Int)+1)=((a+l / 4*2+1:Nat):Int):=wrp1 (by omega)
 rw [e6,e7]
 have hl:=h.len
 refine lp_of (fun s w4=>∃(i:Nat) (z1:List Int) (y:Int),s.1=i∧a≤i∧i≤a+l / 4*2+2∧Ar w0 p n c S w4 z1∧SP a (a+l) z z1∧Blk w4 r [.int .u64 y] 224∧Keep (ob p) w w4) (fun s _=>(((a+l / 4*2+2:Nat):Int) - s.1).toNat)
  ⟨a+l / 4*2 - 1,z,_,rfl,by omega,by omega,hA,SP.refl _ _ _,h2,kk⟩ ?_
 rintro ⟨i',⟨⟩⟩ w4 ⟨i,z1,y,rfl,hi1,hi2,h4,sp4,hB4,k4⟩
 simp only []
 have hl4:=h4.len
 refine pif_of (fun hle=>?_) fun hgt=>⟨by first | rfl | trivial,z1,h4,sp4,trivial,k4⟩
 have hle:i≤a+l / 4*2+1:=by simp at hle; omega
 refine cl_of ok179 (next hB4) fun e w5 ⟨y5,he,hB5,k5⟩=>⟨_,he,?_⟩
 have h5:Ar w0 p n c S w5 z1:=h4.other k5 hr0 hrp
 have k05:Keep (ob p) w w5:=k4.trans k5 fun j hj (e:j=r)=>by omega
 have hra:=and_range y5 (M - 1) (by omega)
 generalize bits .and .u64 y5 ((M - 1:Nat):Int)=o at *
 rw [wrp (x:=o) (by omega)]
 refine ⟨fun s w6=>∃q:Nat,s.1=q∧q<l∧w6=w5,?_,?_⟩
 ·refine pif_of (fun hc=>?_) fun hc=>?_
  ·have hc:(l:Int)≤o:=by simp at hc; omega
   exact ⟨(o - l).toNat,by show IntKind.wrap .i64 (o - (l:Int))=_; rw [wrp (by omega)]; omega,by omega,rfl⟩
  ·have hc:o<(l:Int):=by simp at hc; omega
   exact ⟨o.toNat,by show o=_; omega,by omega,rfl⟩
 ·rintro ⟨q',⟨⟩⟩ w6 ⟨q,rfl,hq,rfl⟩
  simp only []
  have e8:IntKind.wrap .i64 ((a:Int)+(q:Int))=((a+q:Nat):Int):=by rw [wrp (by omega)]; omega
  rw [e8]
  refine h5.drew.swap (by omega) (by omega) fun w7 h7 k7=>?_
  rw [wrp1 (by omega)]
  exact ⟨⟨i+1,swp z1 (a+q) i,y5,rfl,by omega,by omega,h7,sp4.trans (SP.swap (by omega) ⟨by omega,by omega⟩ ⟨by omega,by omega⟩),hB5.drew.keep k7 hrp,k05.drew.trans k7 fun _ _ h=>h⟩,by omega⟩
def Cn (w0:World) (p:Option Addr) (n c:Nat) (S:Int→Prop) (z:List Int) (r:Nat) (w w':World):Prop:=Ar w0 p n c S w' z∧(∃v:Int,Blk w' r [J v] 3)∧Keep (One r) w w'
theorem ord2 (cm:Cm w0 p f S lt) (h:Ar w0 p n c S w z) {r:Nat} {v:Int} (hB:Blk w r [J v] 3) (hr:w0.heap.size≤r) (hrp:¬ob p r) {i j:Nat} (hi:i<n) (hj:j<n) :
  Calls Tryz.prog 185 #[.slice p n c,J i,J j,.pointer (some ⟨r,0,none⟩),f] w fun e w'=>∃x y:Nat,e=.returned (.tuple #[J x,J y])∧((x=i∧y=j)∨(x=j∧y=i))∧Cn w0 p n c S z r w w':=by
 refine (V185_calls p n c i j (some ⟨r,0,none⟩) f w (fun u w'=>∃x y:Nat,u=.tuple #[J x,J y]∧((x=i∧y=j)∨(x=j∧y=i))∧Cn w0 p n c S z r w w') ?_).mono fun e w' ⟨u,he,x,y,hv,hk⟩=>⟨x,y,by rw [he,hv],hk⟩
 unfold V185
 refine h.drew.cmp cm hj hi fun x w1 hx h1 k1=>?_
 have k01:Keep None w w1:=(Keep.refl _ w).drew.then0 k1
 have hB1:=hB.keep0 k01
 refine pif_of (fun _=>?_) fun _=>⟨i,j,rfl,Or.inl ⟨rfl,rfl⟩,h1,⟨v,hB1⟩,k01.none⟩
 refine nn_of (ldI_of (hB1.cell 0) (nn_of ?_))
 simp only [add_mk,Nat.zero_add,Nat.add_zero]
 refine st_of hB1 (by simp) rfl fun w2 h2 k2 _=>⟨j,i,rfl,Or.inr ⟨rfl,rfl⟩,h1.other k2 hr hrp,⟨_,h2⟩,k01.none.trans k2 fun _ _ h=>h⟩
theorem med (cm:Cm w0 p f S lt) (h:Ar w0 p n c S w z) {r:Nat} {v:Int} (hB:Blk w r [J v] 3) (hr:w0.heap.size≤r) (hrp:¬ob p r) {i j k:Nat} (hi:i<n) (hj:j<n) (hk:k<n) :
  Calls Tryz.prog 181 #[.slice p n c,J i,J j,J k,.pointer (some ⟨r,0,none⟩),f] w fun e w'=>∃x:Nat,e=.returned (J x)∧(x=i∨x=j∨x=k)∧Cn w0 p n c S z r w w':=by
 refine (V181_calls p n c i j k (some ⟨r,0,none⟩) f w (fun u w'=>∃x:Nat,u=J x∧(x=i∨x=j∨x=k)∧Cn w0 p n c S z r w w') ?_).mono fun e w' ⟨u,he,x,hv,hk⟩=>⟨x,by rw [he,hv],hk⟩
 unfold V181
 refine cl_of ok185 (ord2 cm h hB hr hrp hi hj) fun e w1 ⟨x1,y1,he,d1,h1,⟨v1,b1⟩,k1⟩=>⟨_,_,he,?_⟩
 have:x1<n∧y1<n:=by rcases d1 with ⟨rfl,rfl⟩ | ⟨rfl,rfl⟩<;>omega
 refine cl_of ok185 (ord2 cm h1 b1 hr hrp this.2 hk) fun e w2 ⟨x2,y2,he,d2,h2,⟨v2,b2⟩,k2⟩=>⟨_,_,he,?_⟩
 have:x2<n∧y2<n:=by rcases d2 with ⟨rfl,rfl⟩ | ⟨rfl,rfl⟩<;>omega
 refine cl_of ok185 (ord2 cm h2 b2 hr hrp (by omega) this.1) fun e w3 ⟨x3,y3,he,d3,h3,b3,k3⟩=>⟨_,_,he,y3,rfl,by omega,h3,b3,(k1.trans k2 fun _ _ h=>h).trans k3 fun _ _ h=>h⟩
theorem madj (cm:Cm w0 p f S lt) (hn:n≤1152921504606846976) (h:Ar w0 p n c S w z) {r:Nat} {v:Int} (hB:Blk w r [J v] 3) (hr:w0.heap.size≤r) (hrp:¬ob p r) {i:Nat} (hi:1≤i∧i+1<n) :
  Calls Tryz.prog 180 #[.slice p n c,J i,.pointer (some ⟨r,0,none⟩),f] w fun e w'=>∃x:Nat,e=.returned (J x)∧(i - 1≤x∧x≤i+1)∧Cn w0 p n c S z r w w':=by
 refine (V180_calls p n c i (some ⟨r,0,none⟩) f w (fun u w'=>∃x:Nat,u=J x∧(i - 1≤x∧x≤i+1)∧Cn w0 p n c S z r w w') ?_).mono fun e w' ⟨u,he,x,hv,hk⟩=>⟨x,by rw [he,hv],hk⟩
 unfold V180
 rw [wrm1 (by omega) hi.1,wrp1 (by omega)]
 exact cl_of ok181 (med cm h hB hr hrp (by omega) (by omega) hi.2) fun e w1 ⟨x,he,d,hc⟩=>⟨_,he,x,rfl,by omega,hc⟩
theorem cho (cm:Cm w0 p f S lt) (hn:n≤1152921504606846976) (h:Ar w0 p n c S w z) {a b:Nat} (hab:a<b) (hb:b≤n) :
  Calls Tryz.prog 155 #[.slice p n c,J a,J b,f] w fun e w'=>∃(q:Nat) (t:Int),e=.returned (.tuple #[J q,J t])∧a≤q∧q<b∧Ar w0 p n c S w' z∧Keep None w w':=by
 refine (V155_calls p n c a b f w (fun v w'=>∃(q:Nat) (t:Int),v=.tuple #[J q,J t]∧a≤q∧q<b∧Ar w0 p n c S w' z∧Keep None w w') ?_).mono fun e w' ⟨v,he,q,t,hv,hk⟩=>⟨q,t,by rw [he,hv],hk⟩
 unfold V155
 obtain ⟨l,rfl⟩:∃l,b=a+l:=⟨b - a,by omega⟩
 refine alc_at fun r w1 hr hB k1=>?_
 have e1:IntKind.wrap .i64 (((a+l:Nat):Int) - (a:Int))=(l:Int):=by rw [wrp (by omega)]; omega
 have e4:Int.tdiv (l:Int) 4=((l / 4:Nat):Int):=by rw [Int.tdiv_eq_ediv_of_nonneg (by omega)]; rfl
 have e5:∀m:Nat,m≤3→IntKind.wrap .i64 ((a:Int)+(IntKind.wrap .i64 ((IntKind.wrap .i64 (Int.tdiv (l:Int) 4))*(m:Int))))=((a+l / 4*m:Nat):Int):=fun m hm=>by
  have hm4:l / 4*m≤l:=by
   have:l / 4*m≤l / 4*3:=Nat.mul_le_mul_left _ hm
   omega
  have ec:((l / 4:Nat):Int)*(m:Int)=((l / 4*m:Nat):Int):=by rw [Int.natCast_mul]
  rw [e4,wrp (x:=((l / 4:Nat):Int)) (by omega),ec,wrp (x:=((l / 4*m:Nat):Int)) (by omega),wrp (by omega)]; omega
 have e51:=e5 1 (by omega)
 have e52:=e5 2 (by omega)
 have e53:=e5 3 (by omega)
 simp only [Int.natCast_one,Int.cast_ofNat_Int] at e51 e52 e53
 have h51:((1:Nat):Int)=1:=rfl
 have h52:((2:Nat):Int)=2:=rfl
 have h53:((3:Nat):Int)=3:=rfl
 rw [e1,e51,e52,e53]
 have hrp:¬ob p r:=fun hh=>by have:=h.own.lt r hh; omega
 have hr0:w0.heap.size≤r:=by have:=h.kp.size; omega
 have h1:=h.keep0 k1
 refine ⟨fun s w2=>∃(q:Nat) (v:Int),s.1=q∧a≤q∧q<a+l∧Ar w0 p n c S w2 z∧Blk w2 r [J v] 3∧Keep None w w2,?_,?_⟩
 ·refine pif_of (fun h8=>?_) fun h8=>⟨a+l / 4*2,0,rfl,by omega,by omega,h1,hB,k1⟩
  have h8:8≤l:=by simp at h8; omega
  refine ⟨fun s w3=>∃(x y u:Nat) (v:Int),s.1=x∧s.2.1=y∧s.2.2.1=u∧(a≤x∧x<a+l)∧(a≤y∧y<a+l)∧(a≤u∧u<a+l)∧Ar w0 p n c S w3 z∧Blk w3 r [J v] 3∧Keep None w w3,?_,?_⟩
  ·refine pif_of (fun h50=>?_) fun h50=>⟨_,_,_,0,rfl,rfl,rfl,⟨by omega,by omega⟩,⟨by omega,by omega⟩,⟨by omega,by omega⟩,h1,hB,k1⟩
   have h50:50≤l:=by simp at h50; omega
   refine cl_of ok180 (madj cm hn h1 hB hr0 hrp (by omega)) fun e w2 ⟨x,he,d1,h2,⟨v2,b2⟩,k2⟩=>⟨_,he,?_⟩
   refine cl_of ok180 (madj cm hn h2 b2 hr0 hrp (by omega)) fun e w3 ⟨y,he,d2,h3,⟨v3,b3⟩,k3⟩=>⟨_,he,?_⟩
   refine cl_of ok180 (madj cm hn h3 b3 hr0 hrp (by omega)) fun e w4 ⟨u,he,d3,h4,⟨v4,b4⟩,k4⟩=>⟨_,he,?_⟩
   exact ⟨x,y,u,v4,rfl,rfl,rfl,⟨by omega,by omega⟩,⟨by omega,by omega⟩,⟨by omega,by omega⟩,h4,b4,((k1.then1 k2 (by omega)).then1 k3 (by omega)).then1 k4 (by omega)⟩
  ·rintro ⟨x',y',u',⟨⟩⟩ w3 ⟨x,y,u,v3,rfl,rfl,rfl,dx,dy,du,h3,b3,k3⟩
   simp only []
   refine cl_of ok181 (med cm h3 b3 hr0 hrp (by omega) (by omega) (by omega)) fun e w4 ⟨q,he,d,h4,⟨v4,b4⟩,k4⟩=>⟨_,he,q,v4,rfl,by omega,by omega,h4,b4,k3.then1 k4 (by omega)⟩
 ·rintro ⟨q',⟨⟩⟩ w2 ⟨q,v,rfl,q1,q2,h2,b2,k2⟩
  simp only []
  refine ldI_of (b2.cell 0) (pif_of (fun _=>⟨q,1,rfl,q1,q2,h2,k2⟩) fun _=>pif_of (fun _=>⟨q,2,rfl,q1,q2,h2,k2⟩) fun _=>⟨q,0,rfl,q1,q2,h2,k2⟩)
def Pw (lt:Int→Int→Bool) (a a1 b1 b:Nat) (z:List Int):Prop:=∀i j,a≤i→i<j→j<b→(i<a1∨b1≤j)→lt (g z j) (g z i)=false
theorem Pw.sp {a a1 b1 b:Nat} {z1 z2:List Int} (h:Pw lt a a1 b1 b z1) (sp:SP a1 b1 z1 z2) (ha:a≤a1) (hb:b1≤b) (hbl:b≤z1.length) (hab:a1≤b1):Pw lt a a1 b1 b z2:=by
 intro i j hi hij hj hd
 rcases hd with hd | hd
 ·rw [sp.out i (Or.inl hd)]
  by_cases hja:a1≤j∧j<b1
  ·exact sp.all (by omega) (P:=fun y=>lt y (g z1 i)=false) (fun k k1 k2=>h i k hi (by omega) (by omega) (Or.inl hd)) j hja.1 hja.2
  ·rw [sp.out j (by omega)]; exact h i j hi hij hj (Or.inl hd)
 ·rw [sp.out j (Or.inr hd)]
  by_cases hia:a1≤i∧i<b1
  ·exact sp.all (by omega) (P:=fun y=>lt (g z1 j) y=false) (fun k k1 k2=>h k j (by omega) (by omega) hj (Or.inr hd)) i hia.1 hia.2
  ·rw [sp.out i (by omega)]; exact h i j hi hij hj (Or.inr hd)
theorem Pw.sorted {a a1 b1 b:Nat} {z1:List Int} (h:Pw lt a a1 b1 b z1) (so:Sorted lt a1 b1 z1):Sorted lt a b z1:=by
 intro i j hi hij hj
 by_cases hd:i<a1∨b1≤j
 ·exact h i j hi hij hj hd
 ·exact so i j (by omega) hij (by omega)
def Inv (w0:World) (p:Option Addr) (n c:Nat) (S:Int→Prop) (lt:Int→Int→Bool) (a b a1 b1:Nat) (z:List Int) (w w':World) (z1:List Int):Prop:=
 Ar w0 p n c S w' z1∧SP a b z z1∧Pw lt a a1 b1 b z1∧Keep (ob p) w w'
theorem Inv.step {a b a1 b1:Nat} {w1 w2:World} {z1:List Int} {Q:List Int→Prop} (h:Inv w0 p n c S lt a b a1 b1 z w w1 z1) (ha:a≤a1) (hb:b1≤b) (hbn:b≤n) (hab:a1≤b1) (hr:Res w0 p n c S a1 b1 z1 Q w1 w2) :
  ∃z2,Inv w0 p n c S lt a b a1 b1 z w w2 z2∧Q z2∧SP a1 b1 z1 z2:=by
 obtain ⟨h1,sp1,pw1,k1⟩:=h
 obtain ⟨z2,h2,sp2,q2,k2⟩:=hr
 exact ⟨z2,⟨h2,sp1.trans (sp2.mono ha hb),pw1.sp sp2 ha hb (by rw [h1.len]; exact hbn) hab,k1.trans k2 fun _ _ h=>h⟩,q2,sp2⟩
theorem pdq (cm:Cm w0 p f S lt) (hn:n≤1152921504606846976):∀(N:Nat) (w:World) (z:List Int) (a b:Nat) (lim:Int),b≤a+N→Ar w0 p n c S w z→a≤b→b≤n→(0<a→∀k,a≤k→k<b→lt (g z k) (g z (a - 1))=false)→
  Calls Tryz.prog 133 #[.slice p n c,J a,J b,J lim,f] w fun e w'=>e=.returned (.tuple #[])∧Res w0 p n c S a b z (Sorted lt a b) w w':=by
 intro N
 induction N using Nat.strongRecOn with
 | ind N ih=>
 intro w z a b lim hN h hab hb hpre
 refine (V133_calls p n c a b lim f w (fun v w'=>v=.tuple #[]∧Res w0 p n c S a b z (Sorted lt a b) w w') ?_).mono fun e w' ⟨v,he,hv,hk⟩=>⟨by rw [he,hv],hk⟩
 unfold V133
 have hl:=h.len
 refine lp_of (fun s w1=>∃(a1 b1:Nat) (z1:List Int),s.1=a1∧s.2.1=b1∧a≤a1∧a1≤b1∧b1≤b∧Inv w0 p n c S lt a b a1 b1 z w w1 z1) (fun s _=>(s.2.1 - s.1).toNat)
  ⟨a,b,z,rfl,rfl,Nat.le_refl _,hab,Nat.le_refl _,h,SP.refl _ _ _,fun i j h1 h2 h3 h4=>by omega,Keep.refl _ _⟩ ?_
 rintro ⟨a',b',lim1,t1,t2,⟨⟩⟩ w1 ⟨a1,b1,z1,rfl,rfl,ha1,hab1,hb1,I1⟩
 simp only []
 have e1:IntKind.wrap .i64 ((b1:Int) - (a1:Int))=((b1 - a1:Nat):Int):=by rw [wrp (by omega)]; omega
 rw [e1]
 have fin:∀{w2:World},Res w0 p n c S a1 b1 z1 (Sorted lt a1 b1) w1 w2→Res w0 p n c S a b z (Sorted lt a b) w w2:=fun hr=>by
  obtain ⟨z2,⟨h2,sp2,pw2,k2⟩,so2,_⟩:=I1.step ha1 hb1 hb hab1 hr
  exact ⟨z2,h2,sp2,pw2.sorted so2,k2⟩
 refine pif_of (fun h12=>?_) fun h12=>?_
 ·exact cl_of ok152 (ins cm hn I1.1 hab1 (by omega)) fun e w2 ⟨he,hr⟩=>⟨he,by first | rfl | trivial,fin hr⟩
 have h12:a1+12<b1:=by simp at h12; omega
 refine pif_of (fun h0=>?_) fun h0=>?_
 ·exact cl_of ok153 (heap cm hn I1.1 (by omega) (by omega)) fun e w2 ⟨he,hr⟩=>⟨he,by first | rfl | trivial,fin hr⟩
 refine ⟨fun s w4=>∃z2,Inv w0 p n c S lt a b a1 b1 z w w4 z2,?_,?_⟩
 ·refine pif_of (fun _=>?_) fun _=>⟨z1,I1⟩
  refine cl_of ok154 (brk hn I1.1 (by omega) (by omega)) fun e w2 ⟨he,hr⟩=>⟨he,?_⟩
  obtain ⟨z2,I2,_⟩:=I1.step ha1 hb1 hb hab1 hr
  exact ⟨z2,I2⟩
 clear fin
 rintro ⟨lim2,⟨⟩⟩ w4 ⟨z2,I2⟩
 simp only []
 refine cl_of ok155 (cho cm hn I2.1 (by omega) (by omega)) fun e w6 ⟨q0,t0,he,q1,q2,h6,k6⟩=>⟨_,_,he,?_⟩
 have I6:Inv w0 p n c S lt a b a1 b1 z w w6 z2:=⟨h6,I2.2.1,I2.2.2.1,I2.2.2.2.then0 k6⟩
 refine ⟨fun s w7=>∃(q:Nat) (z3:List Int),s.1=q∧a1≤q∧q<b1∧Inv w0 p n c S lt a b a1 b1 z w w7 z3,?_,?_⟩
 ·refine pif_of (fun _=>?_) fun _=>⟨q0,z2,rfl,q1,q2,I6⟩
  refine cl_of ok156 (rev (f:=f) hn h6 (by omega) (by omega)) fun e w8 ⟨he,hr⟩=>⟨he,?_⟩
  obtain ⟨z3,I3,_⟩:=I6.step ha1 hb1 hb hab1 hr
  refine ⟨b1 - 1 - (q0 - a1),z3,?_,by omega,by omega,I3⟩
  show IntKind.wrap .i64 ((IntKind.wrap .i64 ((b1:Int) - 1)) - (IntKind.wrap .i64 ((q0:Int) - (a1:Int))))=_
  rw [wrp (x:=(b1:Int) - 1) (by omega),wrp (x:=(q0:Int) - (a1:Int)) (by omega),wrp (by omega)]
  omega
 rintro ⟨q',t3,⟨⟩⟩ w7 ⟨q,z3,rfl,hq1,hq2,I3⟩
 simp only []
 -- what lies ahead
 have ahead:∀{w':World} {z':List Int},Inv w0 p n c S lt a b a1 b1 z w w' z'→0<a1→∀k,a1≤k→k<b1→lt (g z' k) (g z' (a1 - 1))=false:=by
  intro w' z' I ha0 k k1 k2
  by_cases haa:a1=a
  ·have ee:g z' (a1 - 1)=g z (a1 - 1):=I.2.1.out _ (Or.inl (by omega))
   rw [ee,haa]
   exact I.2.1.all (by omega) (P:=fun y=>lt y (g z (a - 1))=false) (hpre (by omega)) k (by omega) (by omega)
  ·exact I.2.2.1 (a1 - 1) k (by omega) (by omega) (by omega) (Or.inl (by omega))
 refine ⟨fun s w9=>∃z4,Inv w0 p n c S lt a b a1 b1 z w w9 z4,?_,?_⟩
 ·refine pif_of (fun _=>?_) fun _=>⟨z3,I3⟩
  refine cl_of ok157 (pin cm hn I3.1 (by omega) (by omega) (ahead I3)) fun e w8 ⟨t,he,hr⟩=>⟨_,he,?_⟩
  obtain ⟨z4,I4,so4,_⟩:=I3.step ha1 hb1 hb hab1 hr
  refine pif_of (fun ht=>?_) fun _=>⟨z4,I4⟩
  exact ⟨by first | rfl | trivial,z4,I4.1,I4.2.1,I4.2.2.1.sorted (so4 ht),I4.2.2.2⟩
 rintro ⟨⟩ w9 ⟨z4,I4⟩
 have hl4:=I4.1.len
 -- where it is parted in two
 have part:∀{w12:World},Inv w0 p n c S lt a b a1 b1 z w w12 z4→∀(t1' t2':Bool) (K:Int×Int×Int×Bool×Bool×Unit→World→Prop),
   (∀(a2 b2:Nat) (w':World) (z':List Int) (u1 u2:Bool),a1≤a2→a2≤b2→b2≤b1→b2 - a2<b1 - a1→Inv w0 p n c S lt a b a2 b2 z w w' z'→K ((a2:Int),(b2:Int),lim2,u1,u2,()) w')→
   cl Tryz.prog 159 [.slice p n c,.int .i64 a1,.int .i64 b1,.int .i64 q,f] w12 fun e66 w14=>∃x64:Int,∃x65:Bool,e66=Ending.returned (.tuple #[.int .i64 x64,.bool x65])∧
    pif (decide ((IntKind.wrap .i64 (x64 - a1))<(IntKind.wrap .i64 (b1 - x64)))) (
     cl Tryz.prog 133 [.slice p n c,.int .i64 a1,.int .i64 x64,.int .i64 lim2,f] w14 fun e73 w15=>e73=Ending.returned (.tuple #[])∧
     K ((IntKind.wrap .i64 (x64+1)),(b1:Int),lim2,(decide ((IntKind.wrap .i64 (x64 - a1))≥(IntKind.wrap .i64 (Int.tdiv ((b1 - a1:Nat):Int) 8)))),x65,()) w15) (
     cl Tryz.prog 133 [.slice p n c,.int .i64 (IntKind.wrap .i64 (x64+1)),.int .i64 b1,.int .i64 lim2,f] w14 fun e77 w16=>e77=Ending.returned (.tuple #[])∧
     K ((a1:Int),x64,lim2,(decide ((IntKind.wrap .i64 (b1 - x64))≥(IntKind.wrap .i64 (Int.tdiv ((b1 - a1:Nat):Int) 8)))),x65,()) w16):=by
  intro w12 I12 t1' t2' K hK
  refine cl_of ok159 (par cm hn I12.1 (by omega) (by omega) ⟨hq1,hq2⟩) fun e w14 ⟨m,t,he,hr⟩=>⟨_,_,he,?_⟩
  obtain ⟨z5,I5,⟨m1,m2,lo5,hi5⟩,_⟩:=I12.step ha1 hb1 hb hab1 hr
  have hl5:=I5.1.len
  have sx:∀{k:Nat},k<n→S (g z5 k):=fun hk=>I5.1.s hk
  have lo5':∀k,a1≤k→k<m→lt (g z5 m) (g z5 k)=false:=fun k k1 k2=>cm.asym _ _ (sx (by omega)) (sx (by omega)) (lo5 k k1 k2)
  refine pif_of (fun _=>?_) fun _=>?_
  ·-- the left part
   have hrec:=ih (m - a1) (by omega) w14 z5 a1 m lim2 (by omega) I5.1 m1 (by omega) (fun ha0 k k1 k2=>ahead I5 ha0 k k1 (by omega))
   refine cl_of ok133 hrec fun e w15 ⟨he,z6,h6,sp6,so6,k6⟩=>⟨he,?_⟩
   rw [wrp1 (by omega)]
   refine hK (m+1) b1 w15 z6 _ _ (by omega) (by omega) (Nat.le_refl _) (by omega) ⟨h6,I5.2.1.trans (sp6.mono (by omega) (by omega)),?_,I5.2.2.2.trans k6 fun _ _ h=>h⟩
   have pw6:Pw lt a a1 b1 b z6:=I5.2.2.1.sp (sp6.mono (Nat.le_refl _) (by omega)) ha1 hb1 (by omega) (by omega)
   have lo6:∀k,a1≤k→k<m→lt (g z5 m) (g z6 k)=false:=sp6.all (by omega) (P:=fun y=>lt (g z5 m) y=false) lo5'
   have s6:∀{k:Nat},k<n→S (g z6 k):=fun hk=>h6.s hk
   intro i j i1 ij jb hd
   by_cases hd1:i<a1∨b1≤j
   ·exact pw6 i j i1 ij jb hd1
   ·have e6:∀k,m≤k→g z6 k=g z5 k:=fun k hk=>sp6.out k (Or.inr hk)
    by_cases him:i<m
    ·by_cases hjm:j<m
     ·exact so6 i j (by omega) ij hjm
     ·rw [e6 j (by omega)]
      by_cases hjm2:j=m
      ·rw [hjm2]; exact lo6 i (by omega) him
      ·exact cm.trans _ _ _ (s6 (by omega)) (sx (k:=m) (by omega)) (sx (by omega)) (lo6 i (by omega) him) (hi5 j (by omega) (by omega))
    ·obtain rfl:i=m:=by omega
     rw [e6 j (by omega),e6 i (by omega)]
     exact hi5 j (by omega) (by omega)
  ·-- the right part
   rw [wrp1 (by omega)]
   have hrec:=ih (b1 - (m+1)) (by omega) w14 z5 (m+1) b1 lim2 (by omega) I5.1 (by omega) (by omega) (fun ha0 k k1 k2=>by
    rw [Nat.add_sub_cancel]; exact hi5 k (by omega) k2)
   refine cl_of ok133 hrec fun e w15 ⟨he,z6,h6,sp6,so6,k6⟩=>⟨he,?_⟩
   refine hK a1 m w15 z6 _ _ (Nat.le_refl _) m1 (by omega) (by omega) ⟨h6,I5.2.1.trans (sp6.mono (by omega) (by omega)),?_,I5.2.2.2.trans k6 fun _ _ h=>h⟩
   have pw6:Pw lt a a1 b1 b z6:=I5.2.2.1.sp (sp6.mono (by omega) (Nat.le_refl _)) ha1 hb1 (by omega) (by omega)
   have hi6:∀k,m+1≤k→k<b1→lt (g z6 k) (g z5 m)=false:=sp6.all (by omega) (P:=fun y=>lt y (g z5 m)=false) (fun k k1 k2=>hi5 k (by omega) k2)
   have s6:∀{k:Nat},k<n→S (g z6 k):=fun hk=>h6.s hk
   intro i j i1 ij jb hd
   by_cases hd1:i<a1∨b1≤j
   ·exact pw6 i j i1 ij jb hd1
   ·have e6:∀k,k≤m→g z6 k=g z5 k:=fun k hk=>sp6.out k (Or.inl (by omega))
    by_cases hjm:j=m
    ·rw [e6 j (by omega),e6 i (by omega),hjm]
     exact lo5' i (by omega) (by omega)
    ·by_cases him:i<m
     ·rw [e6 i (by omega)]
      exact cm.trans _ _ _ (sx (by omega)) (sx (k:=m) (by omega)) (s6 (by omega)) (lo5' i (by omega) him) (hi6 j (by omega) (by omega))
     ·by_cases him2:i=m
      ·rw [e6 i (by omega),him2]; exact hi6 j (by omega) (by omega)
      ·exact so6 i j (by omega) ij (by omega)
 have e8:IntKind.wrap .i64 ((a1:Int) - 1)=(a1:Int) - 1:=by rw [wrp (by omega)]
 rw [e8]
 have goOn:∀(a2 b2:Nat) (w':World) (z':List Int) (u1 u2:Bool),a1≤a2→a2≤b2→b2≤b1→b2 - a2<b1 - a1→Inv w0 p n c S lt a b a2 b2 z w w' z'→
   (∃(a3 b3:Nat) (z3:List Int),((a2:Int))=a3∧((b2:Int))=b3∧a≤a3∧a3≤b3∧b3≤b∧Inv w0 p n c S lt a b a3 b3 z w w' z3)∧((b2:Int) - (a2:Int)).toNat<((b1:Int) - (a1:Int)).toNat:=fun a2 b2 w' z' u1 u2 h1 h2 h3 h4 hI=>
  ⟨⟨a2,b2,z',rfl,rfl,by omega,h2,by omega,hI⟩,by omega⟩
 refine I4.1.drew.cmpG cm (i:=a1 - 1) (j:=q) (fun hbb=>?_) (fun hbb x w12 hx h12 k12=>?_) (fun hbb=>?_)
 ·have hbb:0<a1:=by simp at hbb; omega
  exact ⟨by omega,rfl,by omega,by omega⟩
 ·have ha0:0<a1:=by simp at hbb; omega
  have I12:Inv w0 p n c S lt a b a1 b1 z w w12 z4:=⟨h12,I4.2.1,I4.2.2.1,I4.2.2.2.drew.then0 k12⟩
  rw [hbb]
  refine pif_of (fun hc=>?_) fun hc=>?_
  ·have hc:¬x<0:=by simpa using hc
   have hno:=not_lt_of hx hc
   refine cl_of ok158 (peq cm hn h12 (by omega) (by omega) ⟨hq1,hq2⟩) fun e w13 ⟨m,he,hr⟩=>⟨_,he,?_⟩
   obtain ⟨z5,I5,⟨m1,m2,lo5,hi5⟩,sp5⟩:=I12.step ha1 hb1 hb hab1 hr
   refine goOn m b1 w13 z5 t1 t2 (by omega) m2 (Nat.le_refl _) (by omega) ⟨I5.1,I5.2.1,?_,I5.2.2.2⟩
   have hah:=ahead I5 ha0
   have ee:g z5 (a1 - 1)=g z4 (a1 - 1):=sp5.out _ (Or.inl (by omega))
   have sx:∀{k:Nat},k<n→S (g z5 k):=fun hk=>I5.1.s hk
   have sq:S (g z4 q):=I12.1.s (by omega)
   have s1:S (g z4 (a1 - 1)):=I12.1.s (by omega)
   intro i j i1 ij jb hd
   by_cases hd1:i<a1∨b1≤j
   ·exact I5.2.2.1 i j i1 ij jb hd1
   ·have lei:=lo5 i (by omega) (by omega)
    have lej:lt (g z5 j) (g z4 q)=false:=by
     have:=hah j (by omega) (by omega)
     rw [ee] at this
     exact cm.trans _ _ _ sq s1 (sx (by omega)) hno this
    exact cm.trans _ _ _ (sx (by omega)) sq (sx (by omega)) lei lej
  ·exact part I12 t1 t2 (fun s w'=>(∃(a3 b3:Nat) (z3:List Int),s.1=a3∧s.2.1=b3∧a≤a3∧a3≤b3∧b3≤b∧Inv w0 p n c S lt a b a3 b3 z w w' z3)∧(s.2.1 - s.1).toNat<((b1:Int) - (a1:Int)).toNat) goOn
 ·rw [hbb]
  refine pif_f rfl ?_
  exact part ⟨I4.1.drew,I4.2.1,I4.2.2.1,I4.2.2.2.drew⟩ t1 t2 (fun s w'=>(∃(a3 b3:Nat) (z3:List Int),s.1=a3∧s.2.1=b3∧a≤a3∧a3≤b3∧b3≤b∧Inv w0 p n c S lt a b a3 b3 z w w' z3)∧(s.2.1 - s.1).toNat<((b1:Int) - (a1:Int)).toNat) goOn
theorem sortFunc (cm:Cm w0 p f S lt) (hn:n≤1152921504606846976) (h:Ar w0 p n c S w z) :
  Calls Tryz.prog 91 #[.slice p n c,f] w fun e w'=>e=.returned (.tuple #[])∧∃z',Ar w0 p n c S w' z'∧z'.Perm z∧Sorted lt 0 n z'∧Keep (ob p) w w':=by
 refine (V91_calls p n c f w (fun v w'=>v=.tuple #[]∧∃z',Ar w0 p n c S w' z'∧z'.Perm z∧Sorted lt 0 n z'∧Keep (ob p) w w') ?_).mono fun e w' ⟨v,he,hv,hk⟩=>⟨by rw [he,hv],hk⟩
 unfold V91
 have e1:IntKind.wrap .u64 (n:Int)=(n:Int):=by rw [IntKind.wrap_u64]; omega
 rw [e1]
 refine cl_of ok134 (bits_len n w (by omega)) fun e w1 ⟨he,hw⟩=>⟨_,he,?_⟩
 subst hw
 have hp:=pdq cm hn n w1 z 0 n (blen n) (by omega) h (Nat.zero_le _) (Nat.le_refl _) (fun h=>by omega)
 exact cl_of ok133 hp fun e w2 ⟨he,z',h2,sp2,so2,k2⟩=>⟨he,rfl,z',h2,sp2.perm,so2,k2⟩
end
end Go.Proofs.YtmhjehodfggleaaGreat.Sort

/- Lists of literals: Tidy, by sorting and by merging; what is joined and taken out. -/

set_option linter.unusedVariables false
set_option linter.unusedSimpArgs false
set_option maxRecDepth 100000
namespace Go.Proofs.YtmhjehodfggleaaGreat.Lits
open Go Go.Proofs.YtmhjehodfggleaaGreat.Vc Go.Proofs.YtmhjehodfggleaaGreat.T
open Go.Proofs.YtmhjehodfggleaaGreat.Apart (RdL own_rdl wrap_nat getE own_len take_snoc New Gro)
abbrev J (n:Int):Value:=.int .i64 n
def fl (l:Int):Bool:=decide (l≠0)&&(decide (-1048576≤l)&&decide (l≤1048576))
theorem fl_iff {l:Int} : fl l=true↔l≠0∧-1048576≤l∧l≤1048576:=by
 unfold fl
 simp only [Bool.and_eq_true,decide_eq_true_eq]
def idx (l:Int):Int:=if l<0 then -2*l - 1 else 2*l - 2
theorem idx_inj {a b:Int} (ha:fl a=true) (hb:fl b=true) (h:idx a=idx b):a=b:=by
 have:=fl_iff.1 ha
 have:=fl_iff.1 hb
 unfold idx at h
 split at h<;>split at h<;>omega
theorem idx_range {a:Int} (ha:fl a=true):0≤idx a∧idx a≤2097152:=by
 have:=fl_iff.1 ha
 unfold idx
 split<;>omega
def Srt (L:List Int):Prop:=L.Pairwise fun a b=>idx a<idx b
structure Td (M:Int→Prop) (L:List Int):Prop where
 srt:Srt L
 mem:∀x,x∈L↔M x∧fl x=true
theorem srt_uniq:∀{L L':List Int},Srt L→Srt L'→(∀x∈L,fl x=true)→(∀x,x∈L↔x∈L')→L=L':=by
 intro L
 induction L with
 | nil=>
  intro L' _ _ _ h
  cases L' with
  | nil=>rfl
  | cons b s=>have:=(h b).2 (by simp); cases this
 | cons a t ih=>
  intro L' h1 h2 hf h
  cases L' with
  | nil=>have:=(h a).1 (by simp); cases this
  | cons b s=>
   have h1':=List.pairwise_cons.1 h1
   have h2':=List.pairwise_cons.1 h2
   have hab:a=b:=by
    have ha:=(h a).1 (by simp)
    have hb:=(h b).2 (by simp)
    rcases List.mem_cons.1 ha with e | ha
    ·exact e
    rcases List.mem_cons.1 hb with e | hb
    ·exact e.symm
    have:=h1'.1 b hb
    have:=h2'.1 a ha
    omega
   subst hab
   congr 1
   refine ih h1'.2 h2'.2 (fun x hx=>hf x (by simp [hx])) fun x=>⟨fun hx=>?_,fun hx=>?_⟩
   ·rcases List.mem_cons.1 ((h x).1 (by simp [hx])) with e | hx'
    ·have:=h1'.1 x hx; rw [e] at this; omega
    ·exact hx'
   ·rcases List.mem_cons.1 ((h x).2 (by simp [hx])) with e | hx'
    ·have:=h2'.1 x hx; rw [e] at this; omega
    ·exact hx'
theorem Td.uniq {M M':Int→Prop} {L L':List Int} (h:Td M L) (h':Td M' L') (hm:∀x,fl x=true→(M x↔M' x)):L=L':=
 srt_uniq h.srt h'.srt (fun x hx=>((h.mem x).1 hx).2) fun x=>by
  rw [h.mem,h'.mem]
  exact ⟨fun ⟨a,b⟩=>⟨(hm x b).1 a,b⟩,fun ⟨a,b⟩=>⟨(hm x b).2 a,b⟩⟩
theorem Td.all {M:Int→Prop} {L:List Int} (h:Td M L):∀x∈L,fl x=true:=fun x hx=>((h.mem x).1 hx).2
theorem srt_snoc {L:List Int} {x:Int} (h:Srt L) (hx:∀a∈L,idx a<idx x):Srt (L++[x]):=by
 unfold Srt
 rw [List.pairwise_append]
 exact ⟨h,by simp,fun a ha b hb=>by simp at hb; subst hb; exact hx a ha⟩
theorem srt_lt {L:List Int} (h:Srt L) {i j:Nat} {a b:Int} (hi:L[i]?=some a) (hj:L[j]?=some b) (hij:i<j):idx a<idx b:=by
 have h1:=(List.getElem?_eq_some_iff.1 hi)
 have h2:=(List.getElem?_eq_some_iff.1 hj)
 obtain ⟨h1,rfl⟩:=h1
 obtain ⟨h2,rfl⟩:=h2
 exact List.pairwise_iff_getElem.1 h i j h1 h2 hij
def Ans (w:World) (v0:Value) (v:Value) (w':World):Prop:=v=v0∧Keep None w w'
theorem ans_of {k:FuncId} {args:Array Value} {w:World} {v0:Value} (h:Calls Tryz.prog k args w fun e w'=>∃v,e=.returned v∧Ans w v0 v w'):Calls Tryz.prog k args w fun e w'=>e=.returned v0∧Keep None w w':=
 h.mono fun e w' ⟨v,he,hv,hk⟩=>⟨by rw [he,hv],hk⟩
section
variable {w:World} {p:Option Addr} {n c:Nat} {cs:List Int}
theorem formedP (l:Int):Calls Tryz.prog 90 #[J l] w fun e w'=>e=.returned (.bool (fl l))∧Keep None w w':=by
 refine ans_of (V90_calls l w (Ans w _) ?_)
 unfold V90
 refine ⟨?_,Keep.refl _ _⟩
 congr 1
 rw [Bool.eq_iff_iff,fl_iff]
 simp [and_assoc]
theorem indexP {l:Int} (hf:fl l=true):Calls Tryz.prog 94 #[J l] w fun e w'=>e=.returned (J (idx l))∧Keep None w w':=by
 refine ans_of (V94_calls l w (Ans w _) ?_)
 unfold V94
 refine cl_of ok90 (formedP l) fun e w1 ⟨he,k1⟩=>⟨_,he,?_⟩
 rw [hf]
 have hb:=fl_iff.1 hf
 refine pif_f rfl (pif_of (fun hl=>⟨?_,k1⟩) fun hl=>⟨?_,k1⟩)
 ·have hl:l<0:=by simpa using hl
  unfold idx; rw [if_pos hl]; congr 1; simp only [IntKind.wrap_i64]; omega
 ·have hl:¬l<0:=by simpa using hl
  unfold idx; rw [if_neg hl]; congr 1; simp only [IntKind.wrap_i64]; omega
def lt (a b:Int):Bool:=decide (idx a<idx b)
theorem byIndex {x y:Int} (hx:fl x=true) (hy:fl y=true):Calls Tryz.prog 92 #[J x,J y] w fun e w'=>e=.returned (J (idx x - idx y))∧Keep None w w':=by
 refine ans_of (V92_calls x y w (Ans w _) ?_)
 unfold V92
 refine cl_of ok94 (indexP hx) fun e w1 ⟨he,k1⟩=>⟨_,he,?_⟩
 refine cl_of ok94 (indexP hy) fun e w2 ⟨he,k2⟩=>⟨_,he,?_,k1.then0 k2⟩
 have:=idx_range hx
 have:=idx_range hy
 congr 1
 rw [IntKind.wrap_i64]; omega
theorem cm (w0:World) (p:Option Addr):Sort.Cm w0 p (.func (.func 92) #[] #[]) (fun l=>fl l=true) lt where
 call:=fun w x y R hk hx hy hR=>⟨92,#[],#[],rfl,cl_of ok92 (byIndex hx hy) fun e w' ⟨he,k⟩=>by
  rw [he]
  exact hR _ _ (by unfold lt; rw [decide_eq_true_eq]; omega) k⟩
 asym:=fun x y _ _ h=>by unfold lt at h ⊢; rw [decide_eq_true_eq] at h; rw [decide_eq_false_iff_not]; omega
 trans:=fun x y z _ _ _ h1 h2=>by unfold lt at *; rw [decide_eq_false_iff_not] at *; omega
theorem setCells_blk {t:TypeId} : ∀(vs:List Value) (b o:Nat) (w:World) (cs:List Value),Blk w b cs t→∃cs',Blk (w.setCells b o vs) b cs' t∧cs'.length=cs.length∧cs'.take o=cs.take o∧Keep (One b) w (w.setCells b o vs):=by
 intro vs
 induction vs with
 | nil=>intro b o w cs h; exact ⟨cs,h,rfl,rfl,Keep.refl _ _⟩
 | cons v vs ih=>
  intro b o w cs h
  obtain ⟨cs',h1,h2,h3,h4⟩:=ih b (o+1) _ _ (h.set o v)
  refine ⟨cs',h1,by rw [h2,List.length_set],?_,(Keep.setOne (sp:=Option.none) v).trans h4 fun _ _ h=>h⟩
  have:=congrArg (List.take o) h3
  rw [List.take_take,List.take_take,Nat.min_eq_left (by omega)] at this
  rw [this,List.take_set_of_le (Nat.le_refl _)]
theorem Own.clear {xs:List Value} {k m cc:Nat} {b:Nat} {K:World→Prop} (h:Own w 3 1 (some ⟨b,0,none⟩) n c xs) (hk:k<n) (hm:m=n - k) {ty:TypeId}
  (hK:∀w',Own w' 3 1 (some ⟨b,0,none⟩) k c (xs.take k)→Keep (One b) w w'→K w') :
  ∃w':World,(Builtin.clear_ #[49] ty #[.slice (some ⟨b,k,none⟩) m cc]).run Tryz.prog w=.ok (.tuple #[]) w'∧K w':=by
 rcases h with ⟨h,_⟩ | ⟨b',cs,hp,hB,h1,h2,h3,rfl⟩
 ·cases h
 cases hp
 have hz:∀w,(zeroValue 3).run Tryz.prog w=.ok (J 0) w:=fun w=>zeroT_spec (by kernel_rfl) w
 refine ⟨_,Lib.run_clear_slice w 49 3 ty (J 0) Tryz.underlying49 hz rfl rfl b k m cc (by omega) (fun j hj=>?_) (fun j hj=>hB.frozen _),?_⟩
 ·rw [hB.cell,List.getElem?_eq_getElem (by omega)]; rfl
 ·obtain ⟨cs',q1,q2,q3,q4⟩:=setCells_blk (List.replicate m (J 0)) b k w cs hB
  refine hK _ (Or.inr ⟨b,cs',rfl,q1,by omega,h2,by omega,?_⟩) q4
  rw [Nat.mul_one,Nat.mul_one,q3,List.take_take,Nat.min_eq_left (by omega)]
theorem compact {z:List Int} (h:Own w 3 1 p n c (z.map J)) (hn:n≤17592186044416) (hf:∀x∈z,fl x=true) (hs:∀(i j:Nat) (a b:Int),i<j→z[i]?=some a→z[j]?=some b→idx a≤idx b) :
  Calls Tryz.prog 93 #[.slice p n c] w fun e w'=>∃m c' L,e=.returned (.slice p m c')∧Own w' 3 1 p m c' (L.map J)∧Srt L∧(∀x,x∈L↔x∈z)∧Keep (ob p) w w':=by
 refine (V93_calls p n c w (fun v w'=>∃m c' L,v=.slice p m c'∧Own w' 3 1 p m c' (L.map J)∧Srt L∧(∀x,x∈L↔x∈z)∧Keep (ob p) w w') ?_).mono fun e w' ⟨v,he,m,c',L,hv,hk⟩=>⟨m,c',L,by rw [he,hv],hk⟩
 unfold V93
 have hzl:z.length=n:=own_len h
 have lt_of:∀{i j:Nat} {a b:Int},i<j→z[i]?=some a→z[j]?=some b→a≠b→idx a<idx b:=fun hij ha hb hne=>by
  have:=hs _ _ _ _ hij ha hb
  have:idx _≠idx _:=fun e=>hne (idx_inj (hf _ (List.mem_of_getElem? ha)) (hf _ (List.mem_of_getElem? hb)) e)
  omega
 refine pif_of (fun hlt=>?_) fun hge=>?_
 ·have hlt:n<2:=by simp at hlt; omega
  refine ⟨n,c,z,rfl,h,?_,fun x=>Iff.rfl,Keep.refl _ _⟩
  match z,hzl with
  | [],_=>exact List.Pairwise.nil
  | [x],_=>exact List.pairwise_singleton ..
  | x :: y :: t,hl=>simp at hl; omega
 have hge:2≤n:=by simp at hge; omega
 refine lp_of (fun s W=>∃k:Nat,s.1=(k:Int)∧1≤k∧k≤n∧Srt (z.take k)∧Own W 3 1 p n c (z.map J)∧Keep (ob p) w W) (fun s _=>(n - s.1).toNat)
  ⟨1,rfl,Nat.le_refl _,by omega,?_,h,Keep.refl _ _⟩ ?_
 ·match z with
  | []=>exact List.Pairwise.nil
  | x :: t=>exact List.pairwise_singleton ..
 rintro ⟨k',⟨⟩⟩ W ⟨k,rfl,hk1,hkn,hsr,hO,kW⟩
 simp only []
 refine pif_of (fun hlt=>?_) fun hge2=>?_
 ·have hlt:k<n:=by simpa using hlt
  have hOd:=hO.drew
  have kd:Keep (ob p) w W.drew:=kW.drew
  obtain ⟨x,hx⟩:=getE (show k<z.length by omega)
  obtain ⟨y,hy⟩:=getE (show k - 1<z.length by omega)
  obtain ⟨b,hb⟩:∃b,p=some ⟨b,0,none⟩:=by
   rcases h with ⟨_,h0,_⟩ | ⟨b,cs,hp,_⟩
   ·omega
   ·exact ⟨b,hp⟩
  subst hb
  have e1:IntKind.wrap .i64 ((k:Int) - 1)=((k - 1:Nat):Int):=by rw [IntKind.wrap_i64]; omega
  rw [e1]
  have rd:∀{V:World} {i:Nat} {arr:List Int} {v:Int} {K:Int→Prop},Own V 3 1 (some ⟨b,0,none⟩) n c (arr.map J)→i<n→arr[i]?=some v→K v→ixA (some ⟨b,0,none⟩) n (i:Int) 1 fun a=>ldI .i64 V a K:=by
   intro V i arr v K hV hi hv hK
   refine ixA_of1 (by omega) (by omega) ?_
   rw [Int.toNat_natCast]
   exact ldI_of (by rw [hV.cell _ (by omega),List.getElem?_map,hv]; rfl) hK
  refine rd hOd hlt hx (rd hOd (by omega) hy ?_)
  refine pif_of (fun heq=>?_) fun hne=>?_
  ·have heq:x=y:=by simpa using heq
   subst heq
   refine ⟨by omega,by omega,?_⟩
   have hsl:∀(m:Nat),m<n→slA (some ⟨b,0,none⟩) c m 1=some ⟨b,m,none⟩:=fun m hm=>by
    have:=hO.le
    unfold slA
    rw [if_neg (by omega)]
    show some (Addr.add _ _)=_
    rw [add_mk,Nat.zero_add,Nat.mul_one]
   rw [Int.toNat_natCast,hsl k hlt]
   refine lp_of (fun s V=>∃(m j:Nat) (arr:List Int),s.1=(m:Int)∧s.2.1=(j:Int)∧1≤j∧j≤n - k∧k≤m∧m≤k+j - 1∧arr.length=n∧Own V 3 1 (some ⟨b,0,none⟩) n c (arr.map J)∧(∀i,k+j - 1≤i→arr[i]?=z[i]?)∧Srt (arr.take m)∧
     (∀x,x∈arr.take m↔x∈z.take (k+j))∧Keep (ob (some ⟨b,0,none⟩)) w V) (fun s _=>((n - k:Nat) - s.2.1).toNat)
    ⟨k,1,z,rfl,rfl,Nat.le_refl _,by omega,Nat.le_refl _,by omega,hzl,hOd,fun _ _=>rfl,hsr,fun v=>?_,kd⟩ ?_
   ·rw [take_snoc hx,List.mem_append,List.mem_singleton]
    refine ⟨Or.inl,fun hh=>hh.elim id fun e=>?_⟩
    subst e
    exact List.mem_of_getElem? (i:=k - 1) (by rw [List.getElem?_take,if_pos (by omega)]; exact hy)
   rintro ⟨m',j',⟨⟩⟩ V ⟨m,j,arr,rfl,rfl,hj1,hjn,hkm,hmk,hal,hV,har,hsD,hmD,kV⟩
   simp only []
   refine pif_of (fun hlt2=>?_) fun hge3=>?_
   ·have hlt2:j<n - k:=by simpa using hlt2
    refine jn_of ?_
    have hVd:=hV.drew
    have kVd:Keep (ob (some ⟨b,0,none⟩)) w V.drew:=kV.drew
    obtain ⟨u,hu⟩:=getE (show k+j<z.length by omega)
    obtain ⟨v,hv⟩:=getE (show k+j - 1<z.length by omega)
    have rd2:∀{i:Nat} {x:Int} {K:Int→Prop},i<n - k→k+j - 1≤k+i→z[k+i]?=some x→K x→ixA (some ⟨b,k,none⟩) (n - k) (i:Int) 1 fun a=>ldI .i64 V.drew a K:=by
     intro i x K hi hge hx hK
     refine ixA_of (by omega) (by omega) ?_
     rw [Int.toNat_natCast,Nat.mul_one]
     exact ldI_of (by rw [hVd.cell _ (by omega),List.getElem?_map,har _ hge,hx]; rfl) hK
    have e2:IntKind.wrap .i64 ((j:Int) - 1)=((j - 1:Nat):Int):=by rw [IntKind.wrap_i64]; omega
    rw [e2]
    refine rd2 hlt2 (by omega) hu (rd2 (x:=v) (by omega) (by omega) (by rw [show k+(j - 1)=k+j - 1 by omega]; exact hv) ?_)
    have e3:IntKind.wrap .i64 ((j:Int)+1)=((j+1:Nat):Int):=by rw [IntKind.wrap_i64]; omega
    have e4:IntKind.wrap .i64 ((m:Int)+1)=((m+1:Nat):Int):=by rw [IntKind.wrap_i64]; omega
    rw [e3,e4]
    have hvm:v∈z.take (k+j):=List.mem_of_getElem? (i:=k+j - 1) (by rw [List.getElem?_take,if_pos (by omega)]; exact hv)
    refine pif_of (fun hne=>?_) fun heq=>?_
    ·have hne:u≠v:=by simpa using hne
     refine rd2 hlt2 (by omega) hu ?_
     refine ixA_of1 (by omega) (by omega) ?_
     rw [Int.toNat_natCast,add_mk,Nat.add_zero]
     refine hVd.st (by omega) rfl fun V' hV' kV' _=>?_
     rw [←List.map_set] at hV'
     have htk:(arr.set m u).take (m+1)=arr.take m++[u]:=by
      have:(arr.set m u)[m]?=some u:=by rw [List.getElem?_set_self (by omega)]
      rw [take_snoc this,List.take_set_of_le (Nat.le_refl _)]
     refine ⟨⟨m+1,j+1,arr.set m u,rfl,rfl,by omega,by omega,by omega,by omega,by rw [List.length_set]; exact hal,hV',fun i hi=>?_,?_,fun x=>?_,kVd.trans kV' fun i _ h=>⟨_,rfl,h.symm⟩⟩,by omega⟩
     ·rw [List.getElem?_set_ne (by omega)]; exact har i (by omega)
     ·rw [htk]
      refine srt_snoc hsD fun a ha=>?_
      obtain ⟨i,hi⟩:=List.mem_iff_getElem?.1 ((hmD a).1 ha)
      rw [List.getElem?_take] at hi
      split at hi
      ·rename_i hik
       have hvu:idx v<idx u:=lt_of (show k+j - 1<k+j by omega) hv hu (Ne.symm hne)
       rcases Nat.lt_or_ge i (k+j - 1) with hi2 | hi2
       ·have:=hs _ _ _ _ hi2 hi hv; omega
       ·obtain rfl:i=k+j - 1:=by omega
        rw [hv] at hi; injection hi with hi; subst hi; exact hvu
      ·cases hi
     ·rw [htk,List.mem_append,List.mem_singleton,hmD,show k+(j+1)=k+j+1 by omega,take_snoc hu,List.mem_append,List.mem_singleton]
    ·have heq:u=v:=by simpa using heq
     refine ⟨⟨m,j+1,arr,rfl,rfl,by omega,by omega,hkm,by omega,hal,hVd,fun i hi=>har i (by omega),hsD,fun x=>?_,kVd⟩,by omega⟩
     rw [hmD,show k+(j+1)=k+j+1 by omega,take_snoc hu,List.mem_append,List.mem_singleton]
     exact ⟨Or.inl,fun hh=>hh.elim id fun e=>by rw [e,heq]; exact hvm⟩
   ·have hge3:j=n - k:=by simp at hge3; omega
    refine ⟨by omega,by omega,?_⟩
    rw [Int.toNat_natCast,hsl m (by omega)]
    refine Own.clear hV (by omega) rfl fun V' hV' kV'=>?_
    have:=hO.le
    refine ⟨by omega,by omega,?_⟩
    have e5:slA (some ⟨b,0,none⟩) c 0 1=some ⟨b,0,none⟩:=by
     unfold slA; rw [if_neg (by omega)]; show some (Addr.add _ _)=_; rw [add_mk]
    rw [e5,Nat.sub_zero,Nat.sub_zero]
    rw [←List.map_take] at hV'
    refine ⟨m,c,arr.take m,rfl,hV',hsD,fun x=>?_,kV.trans kV' fun i _ h=>⟨_,rfl,h.symm⟩⟩
    rw [hmD,hge3,show k+(n - k)=n by omega,←hzl,List.take_length]
  ·have hne:x≠y:=by simpa using hne
   have e2:IntKind.wrap .i64 ((k:Int)+1)=((k+1:Nat):Int):=by rw [IntKind.wrap_i64]; omega
   rw [e2]
   refine ⟨⟨k+1,rfl,by omega,hlt,?_,hOd,kd⟩,by omega⟩
   rw [take_snoc hx]
   refine srt_snoc hsr fun a ha=>?_
   obtain ⟨i,hi⟩:=List.mem_iff_getElem?.1 ha
   rw [List.getElem?_take] at hi
   split at hi
   ·rename_i hik
    have hvu:idx y<idx x:=lt_of (show k - 1<k by omega) hy hx (Ne.symm hne)
    rcases Nat.lt_or_ge i (k - 1) with hi2 | hi2
    ·have:=hs _ _ _ _ hi2 hi hy; omega
    ·obtain rfl:i=k - 1:=by omega
     rw [hy] at hi; injection hi with hi; subst hi; exact hvu
   ·cases hi
 ·have hge2:k=n:=by simp at hge2; omega
  subst hge2
  rw [←hzl,List.take_length] at hsr
  exact ⟨k,c,z,rfl,hO,hsr,fun x=>Iff.rfl,kW⟩
theorem mk2_of {t e:TypeId} {B:Nat} {z:Value} {l n:Int} {K:Option Addr→Nat→Nat→World→Prop}
  (ht:Tryz.prog.underlying t=some (.slice e)) (hi0:(Tryz.prog.info? e).map (fun i=>(i.zero,i.size,i.bytes))=some (some z,1,B)) (hzc:z.cells=#[z])
  (h0:0≤l) (hln:l≤n) (hb:(B:Int)*n≤281474976710656) (hn:n≤9223372036854775807)
  (h:∀b w',b=w.heap.size→Blk w' b (List.replicate n.toNat z) e→Keep None w w'→K (some ⟨b,0,none⟩) l.toNat n.toNat w') :
  ∃(p:Option Addr) (l' c:Nat),∃w':World,(Instr.makeSlice t (.int .i64 l) (.int .i64 n)).run Tryz.prog w=.ok (.slice p l' c) w'∧K p l' c w':=by
 obtain ⟨i,hi,hi'⟩:=Option.map_eq_some_iff.1 hi0
 simp only [Prod.mk.injEq] at hi'
 obtain ⟨hz,hsz,rfl⟩:=hi'
 have hr:=run_make (P:=Tryz.prog) w t e i z ht hi hz .i64 .i64 l n h0 hln hb hn
 refine ⟨_,_,_,_,hr,h _ _ rfl ?_ ((Keep.refl _ w).alloc _)⟩
 have e1:madeCells z.cells (n.toNat*i.size)=(List.replicate n.toNat z).toArray:=by
  apply Array.toList_inj.1
  rw [hzc,made_one,hsz,Nat.mul_one]
 rw [e1]
 exact Blk.new w _ e
theorem snoc_filter {cs:List Int} {i:Nat} {x:Int} (hx:cs[i]?=some x):(cs.take (i+1)).filter fl=if fl x=true then (cs.take i).filter fl++[x] else (cs.take i).filter fl:=by
 rw [take_snoc hx,List.filter_append]
 split
 ·rename_i h; rw [List.filter_cons_of_pos h]; rfl
 ·rename_i h; rw [List.filter_cons_of_neg h]; simp
theorem tidyP (h:RdL w p n cs) (hn:n≤17592186044416):Calls Tryz.prog 47 #[.slice p n c] w fun e w'=>∃v L,e=.returned v∧Td (·∈cs) L∧New w L v w':=by
 refine (V47_calls p n c w (fun v w'=>∃L,Td (·∈cs) L∧New w L v w') ?_).mono fun e w' ⟨v,he,L,hk⟩=>⟨v,L,he,hk⟩
 unfold V47
 have hl:=h.len
 refine mk2_of (B:=8) (z:=J 0) Tryz.underlying49 (by kernel_rfl) rfl (Int.le_refl _) (by omega) (by omega) (by omega) fun b w1 hb hB k1=>?_
 rw [Int.toNat_natCast] at hB ⊢
 have hG0:Gro w w1 (some ⟨b,0,none⟩) 0 n []:=⟨Or.inr ⟨b,_,rfl,hB,Nat.zero_le _,by simp only [maxLen]; omega,by simp,by simp⟩,fun i ⟨a,h,h'⟩=>by cases h; simp only [] at h'; omega,k1⟩
 refine lp_of (fun s W=>∃i:Nat,s.2.1=i∧i≤n∧s.1.2.1≤i∧Gro w W s.1.1 s.1.2.1 s.1.2.2 ((cs.take i).filter fl)) (fun s _=>(n - s.2.1).toNat) ⟨0,rfl,Nat.zero_le _,by show (0:Int).toNat≤0; decide,hG0⟩ ?_
 rintro ⟨⟨q,m,d⟩,i',⟨⟩⟩ w2 ⟨i,rfl,hi,hmi,hG⟩
 simp only [] at hG hmi ⊢
 refine pif_of (fun hlt=>?_) fun hge=>?_
 ·have hlt:i<n:=by simpa using hlt
  refine jn_of ?_
  rw [wrap_nat i (by omega)]
  refine (h.keep0 hG.keep).ix hlt fun a x hx ha=>ldI_of ha (cl_of ok90 (formedP x) fun e w3 ⟨he,k3⟩=>⟨_,he,?_⟩)
  have hG3:=hG.keep0 k3
  have sn:=snoc_filter hx
  refine pif_of (fun hf=>?_) fun hf=>?_
  ·rw [if_pos hf] at sn
   exact hG3.app (by omega) fun p' c' w' hG'=>⟨⟨i+1,rfl,hlt,by show m+1≤i+1; omega,by rw [sn]; exact hG'⟩,by omega⟩
  ·rw [if_neg (by rw [hf]; decide)] at sn
   exact ⟨⟨i+1,rfl,hlt,by show m≤i+1; omega,by rw [sn]; exact hG3⟩,by omega⟩
 ·have hge:i=n:=by simp at hge; omega
  subst hge
  rw [←hl,List.take_length] at hG
  have hAr:Sort.Ar w2 q m d (fun l=>fl l=true) w2 (cs.filter fl):=⟨hG.own,Keep.refl _ _,fun x hx=>(List.mem_filter.1 hx).2⟩
  refine cl_of ok91 (Sort.sortFunc (cm w2 q) (by omega) hAr) fun e w3 ⟨he,z,hz,hp,hso,k3⟩=>⟨he,?_⟩
  have hzl:z.length=m:=hz.len
  refine cl_of ok93 (compact hz.own (by omega) hz.all fun i j a b hij ha hb=>?_) fun e w4 ⟨m',c',L,he,hO,hsr,hm,k4⟩=>⟨_,_,_,he,L,⟨hsr,fun x=>?_⟩,?_⟩
  ·have h1:=(List.getElem?_eq_some_iff.1 ha).1
   have h2:=(List.getElem?_eq_some_iff.1 hb).1
   have:=hso i j (Nat.zero_le _) hij (by omega)
   have e1:=Sort.g_some h1
   have e2:=Sort.g_some h2
   rw [ha] at e1
   rw [hb] at e2
   injection e1 with e1
   injection e2 with e2
   rw [←e1,←e2] at this
   unfold lt at this
   rw [decide_eq_false_iff_not] at this
   omega
  ·rw [hm,hp.mem_iff,List.mem_filter]
  ·have hL:=own_len hO
   subst hL
   exact ⟨q,c',rfl,hO,hG.new,(hG.keep.trans k3 fun i hi h=>by have:=hG.new i h; omega).trans k4 fun i hi h=>by have:=hG.new i h; omega⟩
end
theorem srt_ge:∀{L:List Int},Srt L→(∀x∈L,fl x=true)→∀(i:Nat) (x:Int),L[i]?=some x→(i:Int)≤idx x:=by
 intro L hs hf i
 induction i with
 | zero=>intro x hx; have:=(idx_range (hf x (List.mem_of_getElem? hx))).1; omega
 | succ i ih=>
  intro x hx
  have hi:=(List.getElem?_eq_some_iff.1 hx).1
  obtain ⟨y,hy⟩:=getE (show i<L.length by omega)
  have:=ih y hy
  have:=srt_lt hs hy hx (Nat.lt_succ_self _)
  omega
theorem srt_len {L:List Int} (h:Srt L) (hf:∀x∈L,fl x=true):L.length≤2097153:=by
 by_cases h0:L.length=0
 ·omega
 obtain ⟨x,hx⟩:=getE (show L.length - 1<L.length by omega)
 have:=srt_ge h hf _ _ hx
 have:=(idx_range (hf x (List.mem_of_getElem? hx))).2
 omega
theorem Td.len {M:Int→Prop} {L:List Int} (h:Td M L):L.length≤2097153:=srt_len h.srt h.all
theorem add_add (a:Addr) (h i:Nat):(a.add h).add i=a.add (h+i):=by
 unfold Addr.add
 by_cases h0:h=0
 ·subst h0; simp
 ·by_cases i0:i=0
  ·subst i0; simp [h0]
  ·rw [if_neg i0,if_neg h0,if_neg (by omega)]
   simp [Nat.add_assoc]
section
variable {w:World} {p:Option Addr} {n c:Nat} {cs:List Int}
theorem RdL.take (h:RdL w p n cs) {m:Nat} (hm:m≤n):RdL w p m (cs.take m):=⟨by have:=h.len; simp; omega,fun i x hx=>by
 rw [List.getElem?_take] at hx
 split at hx
 ·exact h.cell i x hx
 ·cases hx⟩
theorem RdL.drop (h:RdL w p n cs) {m:Nat} (hm:m<n) (hc:n≤c):RdL w (slA p c m 1) (n - m) (cs.drop m):=⟨by have:=h.len; simp; omega,fun i x hx=>by
 rw [List.getElem?_drop] at hx
 obtain ⟨a,rfl,hc'⟩:=h.cell _ x hx
 refine ⟨a.add (m*1),?_,?_⟩
 ·unfold slA; rw [if_neg (by omega)]; rfl
 ·rw [add_add,Nat.mul_one]; exact hc'⟩
theorem slA_zero (p:Option Addr) (c sz:Nat):slA p c 0 sz=p:=by
 unfold slA
 split
 ·rfl
 ·cases p with
  | none=>rfl
  | some a=>simp [Addr.add]
theorem Td.nil {M:Int→Prop} (h:∀x,fl x=true→¬M x):Td M []:=⟨List.Pairwise.nil,fun x=>⟨fun h=>(by cases h),fun ⟨a,b⟩=>absurd a (h x b)⟩⟩
theorem new_rdl {xs:List Int} {v:Value} {w':World} (h:New w xs v w'):∃p c,v=.slice p xs.length c∧RdL w' p xs.length xs∧xs.length≤c∧Keep None w w':=by
 obtain ⟨p,c,rfl,hO,_,hk⟩:=h
 exact ⟨p,c,rfl,own_rdl hO,hO.le.1,hk⟩
theorem New.pre {w0:World} {xs:List Int} {v:Value} {w':World} (hk:Keep None w0 w) (h:New w xs v w'):New w0 xs v w':=by
 obtain ⟨p,c,rfl,hO,hf,k⟩:=h
 exact ⟨p,c,rfl,hO,fun i hi=>by have:=hf i hi; have:=hk.size; omega,hk.then0 k⟩
end
end Go.Proofs.YtmhjehodfggleaaGreat.Lits

/- The conditions under which the functions printed here return, as propositions over typed values; each is the machine's own, by the generator's theorem. -/

set_option linter.unusedVariables false
set_option maxRecDepth 100000
namespace Go.Proofs.YtmhjehodfggleaaGreat.T
open Go Go.Proofs.YtmhjehodfggleaaGreat.Vc
def V44 (w:World) (R:Value→World→Prop):Prop:=
 ∃x3:Option Nat,∃w1:World,(Instr.makeMap 155 none).run Tryz.prog w=.ok (.map x3) w1∧
 alc w1 [.slice none 0 0,.map x3,.slice none 0 0] 158 fun b4 w2=>
 R (.pointer (some (⟨b4,0,none⟩:Addr))) w2
def An44:An:=.seq (.leaf) (.seq (.leaf) (.leaf))
theorem V44_eq (w:World) (R:Value→World→Prop):evF Tryz.prog Tryz.f44 An44 [] w R=V44 w R:=by kernel_rfl
theorem V44_calls (w:World) (R:Value→World→Prop) (h:V44 w R):Calls Tryz.prog 44 #[] w fun e w'=>∃v,e=.returned v∧R v w':=
 calls_of_ev (args:=[]) Tryz.func44 (Nat.le_of_ble_eq_true (by kernel_rfl)) (by rw [V44_eq]; exact h)
theorem ok44:fnOk Tryz.prog 44=true:=by kernel_rfl
def V45 (a0:Option Addr) (a1:Option Addr) (a1n:Nat) (a1c:Nat) (a2:Bool) (w:World) (R:Value→World→Prop):Prop:=
 cl Tryz.prog 89 [.slice a1 a1n a1c] w fun e4 w1=>∃x3:Bool,e4=Ending.returned (.bool x3)∧
 pif (!x3) (
  R (.tuple #[.int .i64 0,.int .i64 1]) w1) (
  nn a0 fun p7=>
  ldC w1 (p7.add 0) fun x8 x8n x8c=>
  nn a0 fun p10=>
  ldC w1 (p10.add 0) fun x11 x11n x11c=>
  alc w1 [.int .i64 (a1n:Int)] 3 fun b12 w2=>
  ∃(x13:Option Addr) (x13n x13c:Nat),∃w3:World,(Builtin.append_ #[49,49] 49 #[.slice x11 x11n x11c,.slice (some (⟨b12,0,none⟩:Addr)) 1 1]).run Tryz.prog w2=.ok (.slice x13 x13n x13c) w3∧
  nn a0 fun p14=>
  st w3 ((p14.add 0).add 0) (.slice x13 x13n x13c) fun w4=>
  nn a0 fun p16=>
  ldC w4 (p16.add 0) fun x17 x17n x17c=>
  ∃(x18:Option Addr) (x18n x18c:Nat),∃w5:World,(Builtin.append_ #[49,49] 49 #[.slice x17 x17n x17c,.slice a1 a1n a1c]).run Tryz.prog w4=.ok (.slice x18 x18n x18c) w5∧
  nn a0 fun p19=>
  st w5 ((p19.add 0).add 0) (.slice x18 x18n x18c) fun w6=>
  nn a0 fun p21=>
  ldM w6 (p21.add 1) fun x22=>
  ∃w7:World,(Instr.mapUpdate 155 (.map x22) (.int .i64 (x8n:Int)) (.agg #[.bool a2])).run Tryz.prog w6=.ok () w7∧
  nn a0 fun p24=>
  ldC w7 (p24.add 2) fun x25 x25n x25c=>
  alc w7 [.int .i64 (x8n:Int)] 104 fun b26 w8=>
  ∃(x27:Option Addr) (x27n x27c:Nat),∃w9:World,(Builtin.append_ #[156,156] 156 #[.slice x25 x25n x25c,.slice (some (⟨b26,0,none⟩:Addr)) 1 1]).run Tryz.prog w8=.ok (.slice x27 x27n x27c) w9∧
  nn a0 fun p28=>
  st w9 ((p28.add 2).add 0) (.slice x27 x27n x27c) fun w10=>
  R (.tuple #[.int .i64 (x8n:Int),.int .i64 0]) w10)
def An45:An:=.seq (.leaf) (.seq (.seq (.leaf) (.cond (.seq (.leaf) (.leaf)) (.leaf))) (.seq (.leaf) (.seq (.leaf) (.seq (.leaf) (.seq (.leaf) (.seq (.leaf) (.seq (.leaf) (.leaf))))))))
theorem V45_eq (a0:Option Addr) (a1:Option Addr) (a1n:Nat) (a1c:Nat) (a2:Bool) (w:World) (R:Value→World→Prop):evF Tryz.prog Tryz.f45 An45 [.pointer a0,.slice a1 a1n a1c,.bool a2] w R=V45 a0 a1 a1n a1c a2 w R:=by kernel_rfl
theorem V45_calls (a0:Option Addr) (a1:Option Addr) (a1n:Nat) (a1c:Nat) (a2:Bool) (w:World) (R:Value→World→Prop) (h:V45 a0 a1 a1n a1c a2 w R):Calls Tryz.prog 45 #[.pointer a0,.slice a1 a1n a1c,.bool a2] w fun e w'=>∃v,e=.returned v∧R v w':=
 calls_of_ev (args:=[.pointer a0,.slice a1 a1n a1c,.bool a2]) Tryz.func45 (Nat.le_of_ble_eq_true (by kernel_rfl)) (by rw [V45_eq]; exact h)
theorem ok45:fnOk Tryz.prog 45=true:=by kernel_rfl
def V109 (a0:Option Addr) (a1:Int) (w:World) (R:Value→World→Prop):Prop:=
 nn a0 fun p3=>
 ldM w (p3.add 1) fun x4=>
 ∃x5:Bool,∃x6:Bool,∃w1:World,(Instr.lookup 155 (.map x4) (.int .i64 a1) true).run Tryz.prog w=.ok (.tuple #[.agg #[.bool x5],.bool x6]) w1∧
 alc w1 [.bool false] 160 fun b7 w2=>
 st w2 ((⟨b7,0,none⟩:Addr).add 0) (.bool x5) fun w3=>
 pif (!x6) (
  R (.int .i64 2) w3) (
  nn a0 fun p11=>
  ldM w3 (p11.add 1) fun x12=>
  ∃w4:World,(Builtin.delete_ #[155,104] 0 #[.map x12,.int .i64 a1]).run Tryz.prog w3=.ok (.tuple #[]) w4∧
  R (.int .i64 0) w4)
def An109:An:=.seq (.leaf) (.seq (.seq (.leaf) (.seq (.leaf) (.cond (.seq (.leaf) (.leaf)) (.leaf)))) (.seq (.leaf) (.seq (.leaf) (.leaf))))
theorem V109_eq (a0:Option Addr) (a1:Int) (w:World) (R:Value→World→Prop):evF Tryz.prog Tryz.f109 An109 [.pointer a0,.int .i64 a1] w R=V109 a0 a1 w R:=by kernel_rfl
theorem V109_calls (a0:Option Addr) (a1:Int) (w:World) (R:Value→World→Prop) (h:V109 a0 a1 w R):Calls Tryz.prog 109 #[.pointer a0,.int .i64 a1] w fun e w'=>∃v,e=.returned v∧R v w':=
 calls_of_ev (args:=[.pointer a0,.int .i64 a1]) Tryz.func109 (Nat.le_of_ble_eq_true (by kernel_rfl)) (by rw [V109_eq]; exact h)
theorem ok109:fnOk Tryz.prog 109=true:=by kernel_rfl
def V53 (a0:Option Addr) (a1:Int) (w:World) (R:Value→World→Prop):Prop:=
 nn a0 fun p3=>
 ldM w (p3.add 1) fun x4=>
 ∃x5:Bool,∃x6:Bool,∃w1:World,(Instr.lookup 155 (.map x4) (.int .i64 a1) true).run Tryz.prog w=.ok (.tuple #[.agg #[.bool x5],.bool x6]) w1∧
 alc w1 [.bool false] 160 fun b7 w2=>
 st w2 ((⟨b7,0,none⟩:Addr).add 0) (.bool x5) fun w3=>
 pif (!x6) (
  R (.tuple #[.slice none 0 0,.bool false]) w3) (
  cl Tryz.prog 97 [.pointer a0,.int .i64 a1] w3 fun e12 w4=>∃(x11:Option Addr) (x11n x11c:Nat),e12=Ending.returned (.slice x11 x11n x11c)∧
  cl Tryz.prog 96 [.slice x11 x11n x11c] w4 fun e14 w5=>∃(x13:Option Addr) (x13n x13c:Nat),e14=Ending.returned (.slice x13 x13n x13c)∧
  R (.tuple #[.slice x13 x13n x13c,.bool true]) w5)
def An53:An:=.seq (.leaf) (.seq (.seq (.leaf) (.seq (.leaf) (.cond (.seq (.leaf) (.leaf)) (.leaf)))) (.seq (.leaf) (.leaf)))
theorem V53_eq (a0:Option Addr) (a1:Int) (w:World) (R:Value→World→Prop):evF Tryz.prog Tryz.f53 An53 [.pointer a0,.int .i64 a1] w R=V53 a0 a1 w R:=by kernel_rfl
theorem V53_calls (a0:Option Addr) (a1:Int) (w:World) (R:Value→World→Prop) (h:V53 a0 a1 w R):Calls Tryz.prog 53 #[.pointer a0,.int .i64 a1] w fun e w'=>∃v,e=.returned v∧R v w':=
 calls_of_ev (args:=[.pointer a0,.int .i64 a1]) Tryz.func53 (Nat.le_of_ble_eq_true (by kernel_rfl)) (by rw [V53_eq]; exact h)
theorem ok53:fnOk Tryz.prog 53=true:=by kernel_rfl
def V97 (a0:Option Addr) (a1:Int) (w:World) (R:Value→World→Prop):Prop:=
 nn a0 fun p4=>
 ldC w (p4.add 0) fun x5 x5n x5c=>
 ixA x5 x5n a1 1 fun p6=>
 ldI .i64 w p6 fun x7=>
 nn a0 fun p9=>
 ldC w (p9.add 0) fun x10 x10n x10c=>
 (0:Int)≤(IntKind.wrap .i64 ((IntKind.wrap .i64 (a1+1))+x7))∧(IntKind.wrap .i64 ((IntKind.wrap .i64 (a1+1))+x7))≤(x10c:Int)∧(0:Int)≤(IntKind.wrap .i64 ((IntKind.wrap .i64 (a1+1))+x7))∧(IntKind.wrap .i64 ((IntKind.wrap .i64 (a1+1))+x7))≤(IntKind.wrap .i64 ((IntKind.wrap .i64 (a1+1))+x7))∧(0:Int)≤(IntKind.wrap .i64 (a1+1))∧(IntKind.wrap .i64 (a1+1))≤(IntKind.wrap .i64 ((IntKind.wrap .i64 (a1+1))+x7))∧
 R (.slice (slA x10 (Int.toNat (IntKind.wrap .i64 ((IntKind.wrap .i64 (a1+1))+x7))) (Int.toNat (IntKind.wrap .i64 (a1+1))) 1) ((Int.toNat (IntKind.wrap .i64 ((IntKind.wrap .i64 (a1+1))+x7))) - (Int.toNat (IntKind.wrap .i64 (a1+1)))) ((Int.toNat (IntKind.wrap .i64 ((IntKind.wrap .i64 (a1+1))+x7))) - (Int.toNat (IntKind.wrap .i64 (a1+1))))) w
def An97:An:=.seq (.leaf) (.seq (.leaf) (.seq (.leaf) (.seq (.leaf) (.leaf))))
theorem V97_eq (a0:Option Addr) (a1:Int) (w:World) (R:Value→World→Prop):evF Tryz.prog Tryz.f97 An97 [.pointer a0,.int .i64 a1] w R=V97 a0 a1 w R:=by kernel_rfl
theorem V97_calls (a0:Option Addr) (a1:Int) (w:World) (R:Value→World→Prop) (h:V97 a0 a1 w R):Calls Tryz.prog 97 #[.pointer a0,.int .i64 a1] w fun e w'=>∃v,e=.returned v∧R v w':=
 calls_of_ev (args:=[.pointer a0,.int .i64 a1]) Tryz.func97 (Nat.le_of_ble_eq_true (by kernel_rfl)) (by rw [V97_eq]; exact h)
theorem ok97:fnOk Tryz.prog 97=true:=by kernel_rfl
def V96 (a0:Option Addr) (a0n:Nat) (a0c:Nat) (w:World) (R:Value→World→Prop):Prop:=
 ∃(x3:Option Addr) (x3n x3c:Nat),∃w1:World,(Instr.makeSlice 49 (.int .i64 0) (.int .i64 (a0n:Int))).run Tryz.prog w=.ok (.slice x3 x3n x3c) w1∧
 ∃(x4:Option Addr) (x4n x4c:Nat),∃w2:World,(Builtin.append_ #[49,49] 49 #[.slice x3 x3n x3c,.slice a0 a0n a0c]).run Tryz.prog w1=.ok (.slice x4 x4n x4c) w2∧
 R (.slice x4 x4n x4c) w2
def An96:An:=.seq (.leaf) (.seq (.leaf) (.leaf))
theorem V96_eq (a0:Option Addr) (a0n:Nat) (a0c:Nat) (w:World) (R:Value→World→Prop):evF Tryz.prog Tryz.f96 An96 [.slice a0 a0n a0c] w R=V96 a0 a0n a0c w R:=by kernel_rfl
theorem V96_calls (a0:Option Addr) (a0n:Nat) (a0c:Nat) (w:World) (R:Value→World→Prop) (h:V96 a0 a0n a0c w R):Calls Tryz.prog 96 #[.slice a0 a0n a0c] w fun e w'=>∃v,e=.returned v∧R v w':=
 calls_of_ev (args:=[.slice a0 a0n a0c]) Tryz.func96 (Nat.le_of_ble_eq_true (by kernel_rfl)) (by rw [V96_eq]; exact h)
theorem ok96:fnOk Tryz.prog 96=true:=by kernel_rfl
end Go.Proofs.YtmhjehodfggleaaGreat.T

/- The arena in memory, and its methods. -/

set_option linter.unusedVariables false
set_option linter.unusedSimpArgs false
set_option linter.unusedSectionVars false
set_option maxRecDepth 100000
namespace Go.Proofs.YtmhjehodfggleaaGreat.Arn
open Go Go.Proofs.YtmhjehodfggleaaGreat.Vc Go.Proofs.YtmhjehodfggleaaGreat.T
open Go.Proofs.YtmhjehodfggleaaGreat.Apart (RdL own_rdl wrap_nat getE own_len take_snoc Sl sv New J)
open Go.Proofs.YtmhjehodfggleaaGreat.Lits (fl fl_iff Ans ans_of formedP)
structure Ar where
 cs:List (List Int)
 live:List Int
def cw (c:List Int):List Int:=(c.length:Int) :: c
def words (cs:List (List Int)):List Int:=cs.flatMap cw
def off (cs:List (List Int)) (k:Nat):Nat:=(words (cs.take k)).length
theorem words_snoc (cs:List (List Int)) (c:List Int):words (cs++[c])=words cs++cw c:=by simp [words]
theorem off_at (cs:List (List Int)) {k:Nat} {c:List Int} (h:cs[k]?=some c):∃ahead behind,words cs=ahead++cw c++behind∧ahead.length=off cs k:=by
 obtain ⟨h1,h2⟩:=List.getElem?_eq_some_iff.1 h
 refine ⟨words (cs.take k),words (cs.drop (k+1)),?_,rfl⟩
 have:cs=cs.take k++[c]++cs.drop (k+1):=by
  rw [←h2,List.append_assoc,List.singleton_append,←List.drop_eq_getElem_cons h1,List.take_append_drop]
 conv=>lhs; rw [this]
 simp [words]
def isFlag (v:Value):Prop:=∃b,v=.agg #[.bool b]
structure AR (M:Nat→Prop) (w:World) (b:Nat) (A:Ar):Prop where
 rep:∃(wp:Option Addr) (wn wc r:Nat) (op:Option Addr) (oc:Nat) (os:List Int),Blk w b [.slice wp wn wc,.map (some r),.slice op A.cs.length oc] 158∧Own w 3 1 wp wn wc ((words A.cs).map J)∧Mk isFlag w r A.live∧Own w 104 1 op A.cs.length oc (os.map J)∧
  M r∧(∀i,ob wp i→M i)∧(∀i,ob op i→M i)∧r≠b∧(∀i,ob wp i→i≠b∧i≠r)∧(∀i,ob op i→i≠b∧i≠r∧¬ob wp i)
 own:M b
 lt:∀i,M i→i<w.heap.size
 lv:∀x∈A.live,∃k,k<A.cs.length∧x=off A.cs k
section
variable {M:Nat→Prop} {w w':World} {b:Nat} {A:Ar}
theorem AR.keep {U:Nat→Prop} (h:AR M w b A) (hk:Keep U w w') (hu:∀i,U i→¬M i):AR M w' b A:=by
 obtain ⟨wp,wn,wc,r,op,oc,os,h1,h2,h3,h4,m1,m2,m3,d1,d2,d3⟩:=h.rep
 exact ⟨⟨wp,wn,wc,r,op,oc,os,h1.keep hk fun hh=>hu b hh h.own,h2.keep hk fun i hi hh=>hu i hh (m2 i hi),h3.keep hk fun hh=>hu r hh m1,h4.keep hk fun i hi hh=>hu i hh (m3 i hi),m1,m2,m3,d1,d2,d3⟩,h.own,fun i hi=>Nat.lt_of_lt_of_le (h.lt i hi) hk.size,h.lv⟩
theorem AR.keep0 (h:AR M w b A) (hk:Keep None w w'):AR M w' b A:=h.keep hk fun _ h=>h.elim
theorem new24 (w:World):Calls Tryz.prog 44 #[] w fun e w'=>∃b M,e=.returned (.pointer (some ⟨b,0,none⟩))∧AR M w' b ⟨[],[]⟩∧(∀i,M i→w.heap.size≤i)∧Keep None w w':=by
 refine (V44_calls w (fun v w'=>∃b M,v=.pointer (some ⟨b,0,none⟩)∧AR M w' b ⟨[],[]⟩∧(∀i,M i→w.heap.size≤i)∧Keep None w w') ?_).mono fun e w' ⟨v,he,b,M,hv,hk⟩=>⟨b,M,by rw [he,hv],hk⟩
 unfold V44
 refine mkmapK_of (V:=isFlag) fun r w1 hr hM k1=>?_
 refine alc_at fun b w2 hb hB k2=>?_
 have l1:=hM.lt
 have l2:=hB.lt
 have z1:=k1.size
 refine ⟨b,fun i=>i=r∨i=b,rfl,⟨⟨none,0,0,r,none,0,[],hB,Own.nil _ _ _,hM.keep0 k2,Own.nil _ _ _,Or.inl rfl,(fun i ⟨a,h,_⟩=>by cases h),(fun i ⟨a,h,_⟩=>by cases h),by omega,(fun i ⟨a,h,_⟩=>by cases h),(fun i ⟨a,h,_⟩=>by cases h)⟩,Or.inr rfl,fun i hi=>?_,fun x hx=>by cases hx⟩,fun i hi=>?_,k1.then0 k2⟩
 ·have:=k2.size
  rcases hi with hi | hi<;>omega
 ·rcases hi with hi | hi<;>omega
theorem sound50 {p:Option Addr} {n c:Nat} {cs:List Int} (hR:RdL w p n cs) (hn:n≤17592186044416) :
  Calls Tryz.prog 89 #[.slice p n c] w fun e w'=>∃r:Bool,e=.returned (.bool r)∧(r=true↔∀x∈cs,fl x=true)∧Keep None w w':=by
 refine (V89_calls p n c w (fun v w'=>∃r:Bool,v=.bool r∧(r=true↔∀x∈cs,fl x=true)∧Keep None w w') ?_).mono fun e w' ⟨v,he,r,hv,hk⟩=>⟨r,by rw [he,hv],hk⟩
 unfold V89
 have hll:=hR.len
 refine lp_of (fun s W=>∃i:Nat,s.1=i∧i≤n∧Keep None w W∧∀x∈cs.take i,fl x=true) (fun s _=>(n - s.1).toNat) ⟨0,rfl,Nat.zero_le _,Keep.refl _ _,fun x hx=>by simp at hx⟩ ?_
 rintro ⟨i',⟨⟩⟩ W ⟨i,rfl,hi,kW,hv⟩
 dsimp only
 refine pif_of (fun hlt=>?_) fun hge=>?_
 ·have hlt:i<n:=by simpa using hlt
  rw [wrap_nat i (by omega)]
  refine (hR.keep0 kW).ix hlt fun a x hx ha=>ldI_of ha ?_
  refine cl_of ok90 (formedP x) fun e w2 ⟨he,k2⟩=>⟨_,he,?_⟩
  refine pif_of (fun hq=>⟨false,rfl,⟨fun h=>(by cases h),fun h=>?_⟩,kW.then0 k2⟩) fun hq=>?_
  ·rw [h x (List.mem_of_getElem? hx)] at hq; cases hq
  ·refine ⟨⟨i+1,rfl,hlt,kW.then0 k2,fun y hy=>?_⟩,by omega⟩
   rw [take_snoc hx] at hy
   rcases List.mem_append.1 hy with hy | hy
   ·exact hv y hy
   ·rw [List.mem_singleton.1 hy]; simpa using hq
 ·have hge:i=n:=by simp at hge; omega
  subst hge
  rw [←hll,List.take_length] at hv
  exact ⟨true,rfl,⟨fun _=>hv,fun _=>rfl⟩,kW⟩
structure AfA (M:Nat→Prop) (w:World) (b:Nat) (A:Ar) (M':Nat→Prop) (w':World):Prop where
 ar:AR M' w' b A
 gr:∀i,M' i→M i∨w.heap.size≤i
 kp:Keep M w w'
theorem off_new (cs:List (List Int)) (c:List Int):off (cs++[c]) cs.length=(words cs).length:=by unfold off; rw [List.take_left]
theorem off_old (cs:List (List Int)) (c:List Int) {k:Nat} (h:k≤cs.length):off (cs++[c]) k=off cs k:=by unfold off; rw [List.take_append_of_le_length h]
theorem off_lt (cs:List (List Int)) {k:Nat} (h:k<cs.length):off cs k<(words cs).length:=by
 obtain ⟨c,hc⟩:=getE h
 obtain ⟨a,d,h1,h2⟩:=off_at cs hc
 rw [h1,←h2]
 simp [cw]
theorem put25 (h:AR M w b A) {p:Option Addr} {n c:Nat} {cs:List Int} (hR:RdL w p n cs) (hN:News w 1 p n c (cs.map J)) (hn:n≤17592186044416) (hq:∀j,ob p j→0<n→¬M j) (hf:∀x∈cs,fl x=true) (hw:(words A.cs).length+n+1≤17592186044416) (hl:A.cs.length+1≤17592186044416) (flag:Bool) :
  Calls Tryz.prog 45 #[.pointer (some ⟨b,0,none⟩),.slice p n c,.bool flag] w fun e w'=>e=.returned (.tuple #[J ((words A.cs).length:Nat),J 0])∧∃M',AfA M w b ⟨A.cs++[cs],A.live++[((words A.cs).length:Int)]⟩ M' w':=by
 refine (V45_calls (some ⟨b,0,none⟩) p n c flag w (fun v w'=>v=.tuple #[J ((words A.cs).length:Nat),J 0]∧∃M',AfA M w b ⟨A.cs++[cs],A.live++[((words A.cs).length:Int)]⟩ M' w') ?_).mono fun e w' ⟨v,he,hv,hk⟩=>⟨by rw [he,hv],hk⟩
 unfold V45
 obtain ⟨wp,wn,wc,r,op,oc,os,hB,hW,hMk,hO,m1,m2,m3,d1,d2,d3⟩:=h.rep
 have hwn:=own_len hW
 have hon:=hO.len
 have hcl:=hR.len
 have hbl:b<w.heap.size:=hB.lt
 have hrl:r<w.heap.size:=hMk.lt
 refine cl_of ok89 (sound50 hR hn) fun e w1 ⟨q,he,hr,k1⟩=>⟨q,he,?_⟩
 obtain rfl:q=true:=hr.2 hf
 have z1:=k1.size
 refine pif_f rfl (nn_of (ldC_of (x:=wp) (n:=wn) (c:=wc) (by rw [add_mk]; exact (hB.keep0 k1).cell 0) (nn_of (ldC_of (x:=wp) (n:=wn) (c:=wc) (by rw [add_mk]; exact (hB.keep0 k1).cell 0) ?_))))
 refine alc_at fun b12 w2 hb12 hB12 k2=>?_
 have z2:=k2.size
 have k12:=k1.then0 k2
 have ne_b:∀{i:Nat},ob wp i∨w2.heap.size≤i→i≠b∧i≠r:=fun {i} hi=>by
  rcases hi with hi | hi
  ·exact d2 i hi
  ·omega
 refine app_of (e:=3) (sz:=1) (z:=J 0) (B:=8) Tryz.underlying49 (by kernel_rfl) rfl (by omega) (hW.keep0 k12) hB12.news1 (fun u hu=>?_) (by simp only [maxLen]; omega) (by omega) fun p3 c3 w3 hO3 k3 hd3=>?_
 ·rw [List.mem_singleton.1 hu]; rfl
 have z3:=k3.size
 have hB3:=(hB.keep0 k12).keep k3 fun hh=>(d2 b hh).1 rfl
 refine nn_of ?_
 rw [add_mk,add_mk]
 refine st_of hB3 (by simp) rfl fun w4 hB4 k4 z4=>?_
 have hO4:Own w4 3 1 p3 (wn+1) c3 ((words A.cs++[(n:Int)]).map J):=by
  rw [List.map_append]
  exact hO3.keep k4 fun i hi hh=>(ne_b (hd3 i hi)).1 hh
 refine nn_of (ldC_of (x:=p3) (n:=wn+1) (c:=c3) (by rw [add_mk]; exact hB4.cell 0) ?_)
 have kR:∀{i:Nat} {a:Addr},p=some a→cs[i]?≠none→True:=fun _ _=>trivial
 have hN4:News w4 1 p n c (cs.map J):=by
  rcases hN with hN | ⟨a,rfl,h1,h2⟩
  ·exact Or.inl hN
  ·by_cases hn0:n=0
   ·have hcs:cs=[]:=List.eq_nil_of_length_eq_zero (by omega)
    subst hcs
    exact Or.inr ⟨a,rfl,h1,fun j u hu=>by simp at hu⟩
   ·have hM0:=hq a.block ⟨a,rfl,rfl⟩ (by omega)
    refine Or.inr ⟨a,rfl,h1,fun j u hu=>?_⟩
    have hb:(a.add j).block=a.block:=by unfold Addr.add; split<;>rfl
    have c0:=h2 j u hu
    have c2:=k12.cell c0 fun h=>h
    have c3':=k3.cell c2 (by rw [hb]; exact fun hh=>hM0 (m2 _ hh))
    exact k4.cell c3' (by rw [hb]; exact fun hh=>hM0 (by rw [show a.block=b from hh]; exact h.own))
 refine app_of (e:=3) (sz:=1) (z:=J 0) (B:=8) Tryz.underlying49 (by kernel_rfl) rfl (by omega) hO4 hN4 (fun u hu=>?_) (by simp only [maxLen]; omega) (by omega) fun p5 c5 w5 hO5 k5 hd5=>?_
 ·obtain ⟨y,_,rfl⟩:=List.mem_map.1 hu; rfl
 have z5:=k5.size
 have ne5:∀{i:Nat},ob p3 i→i≠b∧i≠r:=fun {i} hi=>ne_b (hd3 i hi)
 have hB5:=hB4.keep k5 fun hh=>(ne5 hh).1 rfl
 refine nn_of ?_
 rw [add_mk,add_mk]
 refine st_of hB5 (by simp) rfl fun w6 hB6 k6 z6=>?_
 have f5:∀i,ob p5 i→ob wp i∨w2.heap.size≤i:=fun i hi=>by
  rcases hd5 i hi with h1 | h1
  ·exact hd3 i h1
  ·exact Or.inr (by omega)
 have hO6:Own w6 3 1 p5 (wn+1+n) c5 ((words A.cs++[(n:Int)]++cs).map J):=by
  rw [List.map_append]
  exact hO5.keep k6 fun i hi hh=>(ne_b (f5 i hi)).1 hh
 have hMk6:Mk isFlag w6 r A.live:=((((hMk.keep0 k12).keep k3 fun hh=>(d2 r hh).2 rfl).keep k4 fun hh=>d1 hh).keep k5 fun hh=>(ne5 hh).2 rfl).keep k6 fun hh=>d1 hh
 refine nn_of (ldM_of (x:=some r) (by rw [add_mk]; exact hB6.cell 1) ?_)
 have hwl:(wn:Int)=(((words A.cs).length:Nat):Int):=by rw [hwn]
 have hnl:((words A.cs).length:Int)∉A.live:=fun hm=>by
  obtain ⟨k,hk,e⟩:=h.lv _ hm
  have:=off_lt A.cs hk
  omega
 rw [hwl]
 refine upK_of (V:=isFlag) Tryz.underlying155 (by kernel_rfl) hMk6 hnl ⟨flag,rfl⟩ fun w7 hMk7 k7 z7=>?_
 have ne_op:∀{i:Nat},ob op i→i≠b∧i≠r∧¬ob wp i∧i<w.heap.size:=fun {i} hi=>⟨(d3 i hi).1,(d3 i hi).2.1,(d3 i hi).2.2,hO.lt i hi⟩
 have hB7:=hB6.keep k7 fun hh=>d1 (show r=b from hh.symm)
 refine nn_of (ldC_of (x:=op) (n:=A.cs.length) (c:=oc) (by rw [add_mk]; exact hB7.cell 2) ?_)
 refine alc_at fun b26 w8 hb26 hB26 k8=>?_
 have z8:=k8.size
 have hop8:Own w8 104 1 op A.cs.length oc (os.map J):=((((((hO.keep0 k12).keep k3 fun i hi hh=>(ne_op hi).2.2.1 hh).keep k4 fun i hi hh=>(ne_op hi).1 hh).keep k5 fun i hi hh=>by
   rcases hd3 i hh with h1 | h1
   ·exact (ne_op hi).2.2.1 h1
   ·have:=(ne_op hi).2.2.2; omega).keep k6 fun i hi hh=>(ne_op hi).1 hh).keep k7 fun i hi hh=>(ne_op hi).2.1 hh).keep0 k8
 refine app_of (e:=104) (sz:=1) (z:=J 0) (B:=8) Tryz.underlying156 (by kernel_rfl) rfl (by omega) hop8 hB26.news1 (fun u hu=>?_) (by simp only [maxLen]; omega) (by omega) fun p9 c9 w9 hO9 k9 hd9=>?_
 ·rw [List.mem_singleton.1 hu]; rfl
 have z9:=k9.size
 have hB9:=(hB7.keep0 k8).keep k9 fun hh=>(ne_op hh).1 rfl
 refine nn_of ?_
 rw [add_mk,add_mk]
 refine st_of hB9 (by simp) rfl fun w10 hB10 k10 z10=>⟨rfl,?_⟩
 have p5lt:∀i,ob p5 i→i<w5.heap.size:=hO5.lt
 have np5:∀i,ob p5 i→¬ob op i:=fun i hi hh=>by
  rcases f5 i hi with h1 | h1
  ·exact (ne_op hh).2.2.1 h1
  ·have:=(ne_op hh).2.2.2; omega
 have hO10:Own w10 3 1 p5 (wn+1+n) c5 ((words (A.cs++[cs])).map J):=by
  have e1:words (A.cs++[cs])=words A.cs++[(n:Int)]++cs:=by
   rw [words_snoc]; unfold cw; rw [hcl]; simp
  rw [e1]
  exact (((hO6.keep k7 fun i hi hh=>(ne_b (f5 i hi)).2 hh).keep0 k8).keep k9 fun i hi hh=>np5 i hi hh).keep k10 fun i hi hh=>(ne_b (f5 i hi)).1 hh
 have kall:Keep M w w10:=by
  have kM:∀{wa wb:World} {U:Nat→Prop},Keep M w wa→Keep U wa wb→(∀i,i<w.heap.size→U i→M i)→Keep M w wb:=fun h1 h2 h3=>h1.trans h2 h3
  refine kM (kM (kM (kM (kM (kM (kM (kM k12.none k3 fun i _ hh=>m2 i hh) k4 fun i _ hh=>by rw [show i=b from hh]; exact h.own) k5 fun i hi hh=>?_) k6 fun i _ hh=>by rw [show i=b from hh]; exact h.own) k7 fun i _ hh=>by rw [show i=r from hh]; exact m1) k8 fun i _ hh=>hh.elim) k9 fun i hi hh=>m3 i hh) k10 fun i _ hh=>by rw [show i=b from hh]; exact h.own
  rcases hd3 i hh with h1 | h1
  ·exact m2 i h1
  ·omega
 have z10':w.heap.size≤w10.heap.size:=kall.size
 refine ⟨fun i=>i<w10.heap.size∧(M i∨w.heap.size≤i),⟨⟨p5,wn+1+n,c5,r,p9,c9,os++[((words A.cs).length:Int)],?_,hO10,?_,?_,⟨by omega,Or.inl m1⟩,fun i hi=>⟨by have:=hO10.lt i hi; omega,?_⟩,fun i hi=>⟨by have:=hO9.lt i hi; omega,?_⟩,d1,fun i hi=>ne_b (f5 i hi),fun i hi=>?_⟩,⟨by omega,Or.inl h.own⟩,fun i hi=>hi.1,fun x hx=>?_⟩,fun i hi=>hi.2,kall⟩
 ·have:(A.cs++[cs]).length=A.cs.length+1:=by simp
  rw [this]; exact hB10
 ·exact ((hMk7.keep0 k8).keep k9 fun hh=>(ne_op hh).2.1 rfl).keep k10 fun hh=>d1 hh
 ·have:(A.cs++[cs]).length=A.cs.length+1:=by simp
  rw [this,List.map_append]
  exact hO9.keep k10 fun i hi hh=>by
   rcases hd9 i hi with h1 | h1
   ·exact (ne_op h1).1 hh
   ·have:i=b:=hh; omega
 ·rcases f5 i hi with h1 | h1
  ·exact Or.inl (m2 i h1)
  ·exact Or.inr (by omega)
 ·rcases hd9 i hi with h1 | h1
  ·exact Or.inl (m3 i h1)
  ·exact Or.inr (by omega)
 ·rcases hd9 i hi with h1 | h1
  ·exact ⟨(ne_op h1).1,(ne_op h1).2.1,fun hh=>np5 i hh h1⟩
  ·exact ⟨by omega,by omega,fun hh=>by have:=p5lt i hh; omega⟩
 ·rcases List.mem_append.1 hx with hx | hx
  ·obtain ⟨k,hk,e⟩:=h.lv x hx
   exact ⟨k,by simp; omega,by rw [off_old _ _ (by omega)]; exact e⟩
  ·exact ⟨A.cs.length,by simp,by rw [List.mem_singleton.1 hx,off_new]⟩
theorem own69 {p:Option Addr} {n c:Nat} {cs:List Int} (hl:cs.length=n) (hN:News w 1 p n c (cs.map J)) (hn:n≤17592186044416) :
  Calls Tryz.prog 96 #[.slice p n c] w fun e w'=>∃v,e=.returned v∧New w cs v w':=by
 refine V96_calls p n c w (New w cs) ?_
 unfold V96
 refine Lits.mk2_of (B:=8) (z:=J 0) Tryz.underlying49 (by kernel_rfl) rfl (by omega) (by omega) (by omega) (by omega) fun b w1 hb hB k1=>?_
 rw [Int.toNat_natCast] at hB ⊢
 have hO:Own w1 3 1 (some ⟨b,0,none⟩) 0 n []:=Or.inr ⟨b,_,rfl,hB,Nat.zero_le _,by simp only [maxLen]; omega,by simp,by simp⟩
 have hN1:News w1 1 p n c (cs.map J):=by
  rcases hN with hN | ⟨a,rfl,h1,h2⟩
  ·exact Or.inl hN
  ·exact Or.inr ⟨a,rfl,h1,fun j u hu=>k1.cell (h2 j u hu) fun h=>h⟩
 refine app_of (e:=3) (sz:=1) (z:=J 0) (B:=8) Tryz.underlying49 (by kernel_rfl) rfl (by omega) hO hN1 (fun u hu=>?_) (by simp only [maxLen]; omega) (by omega) fun p3 c3 w3 hO3 k3 hd3=>?_
 ·obtain ⟨y,_,rfl⟩:=List.mem_map.1 hu; rfl
 ·have e0:Int.toNat 0+n=n:=Nat.zero_add n
  rw [e0,List.nil_append] at hO3
  rw [e0]
  subst hl
  have z1:=k1.size
  have lb:=hB.lt
  refine ⟨p3,c3,rfl,hO3,fun i hi=>?_,k1.trans k3 fun i hi ⟨a,ha,hj⟩=>by injection ha with ha; subst ha; have hj':b=i:=hj; omega⟩
  rcases hd3 i hi with ⟨a,ha,hj⟩ | h1
  ·injection ha with ha; subst ha
   have hj':b=i:=hj; omega
  ·omega
def Got (w:World) (A:Ar) (r:Int) (v:Value) (w':World):Prop:=
 (r∉A.live∧v=.tuple #[.slice none 0 0,.bool false]∧Keep None w w')∨
 ∃k c p cc,r∈A.live∧r=off A.cs k∧A.cs[k]?=some c∧v=.tuple #[.slice p c.length cc,.bool true]∧Own w' 3 1 p c.length cc (c.map J)∧(∀i,ob p i→w.heap.size≤i)∧Keep None w w'
theorem get42 (h:AR M w b A) (hw:(words A.cs).length≤17592186044416) (r:Int) :
  Calls Tryz.prog 53 #[.pointer (some ⟨b,0,none⟩),J r] w fun e w'=>∃v,e=.returned v∧Got w A r v w':=by
 refine V53_calls (some ⟨b,0,none⟩) r w (Got w A r) ?_
 unfold V53
 obtain ⟨wp,wn,wc,mr,op,oc,os,hB,hW,hMk,hO,m1,m2,m3,d1,d2,d3⟩:=h.rep
 have hwn:=own_len hW
 refine nn_of (ldM_of (x:=some mr) (by rw [add_mk]; exact hB.cell 1) ?_)
 have key:=lkK_of (V:=isFlag) (P:=Tryz.prog) (mty:=155) (kt:=104) (et:=160) (z:=.agg #[.bool false]) (k:=r)
  (K:=fun v b w1=>∃x5:Bool,v=.agg #[.bool x5]∧b=decide (r∈A.live)∧w1=w) Tryz.underlying155 (by kernel_rfl) (by kernel_rfl) hMk (fun v hv hz=>by
   by_cases hm:r∈A.live
   ·obtain ⟨x,hx⟩:=hv hm
    exact ⟨x,hx,rfl,rfl⟩
   ·exact ⟨false,hz hm,rfl,rfl⟩)
 obtain ⟨v,bb,w1,hrun,x5,rfl,rfl,rfl⟩:=key
 refine ⟨x5,_,_,hrun,?_⟩
 refine alc_at fun b7 w2 hb7 hB7 k2=>?_
 have z2:=k2.size
 rw [add_mk]
 refine st_of hB7 (by simp) rfl fun w3 hB3 k3 z3=>?_
 have k13:Keep None w1 w3:=k2.trans k3 fun i hi hh=>by have hh':i=b7:=hh; omega
 refine pif_of (fun hq=>Or.inl ⟨by simpa using hq,rfl,k13⟩) fun hq=>?_
 have hm:r∈A.live:=by simpa using hq
 obtain ⟨k,hk,hrk⟩:=h.lv r hm
 obtain ⟨c,hc⟩:=getE hk
 obtain ⟨ahead,behind,hwd,hal⟩:=off_at A.cs hc
 subst hrk
 -- the slice that is cut
 have hlen:(words A.cs).length=ahead.length+1+c.length+behind.length:=by rw [hwd]; simp [cw]; omega
 have hWat:∀(j:Nat) (x:Int),(words A.cs)[j]?=some x→∃wb,wp=some ⟨wb,0,none⟩∧w3.cell? ⟨wb,j,none⟩=some (J x):=fun j x hx=>by
  have hW3:=hW.keep0 k13
  have hjl:=(List.getElem?_eq_some_iff.1 hx).1
  rcases hW3 with ⟨rfl,h0,_,_⟩ | ⟨wb,cs',rfl,_⟩
  ·omega
  ·refine ⟨wb,rfl,?_⟩
   have hW3':=hW.keep0 k13
   rw [hW3'.cell j (by omega),List.getElem?_map,hx]; rfl
 have hhead:(words A.cs)[off A.cs k]?=some (c.length:Int):=by
  rw [hwd,←hal,List.append_assoc,List.getElem?_append_right (Nat.le_refl _),Nat.sub_self]; rfl
 obtain ⟨wb,hwp,hcell⟩:=hWat _ _ hhead
 have hcut:Calls Tryz.prog 97 #[.pointer (some ⟨b,0,none⟩),J (off A.cs k)] w3 fun e w'=>∃cc,e=.returned (.slice (slA wp (off A.cs k+1+c.length) (off A.cs k+1) 1) c.length cc)∧w'=w3:=by
  refine (V97_calls (some ⟨b,0,none⟩) (off A.cs k) w3 (fun v w'=>∃cc,v=.slice (slA wp (off A.cs k+1+c.length) (off A.cs k+1) 1) c.length cc∧w'=w3) ?_).mono fun e w' ⟨v,he,cc,hv,hw⟩=>⟨cc,by rw [he,hv],hw⟩
  unfold V97
  have hB3':=hB.keep0 k13
  refine nn_of (ldC_of (x:=wp) (n:=wn) (c:=wc) (by rw [add_mk]; exact hB3'.cell 0) ?_)
  rw [hwp]
  refine ixA_of1 (by omega) (by omega) ?_
  rw [Int.toNat_natCast]
  refine ldI_of hcell (nn_of (ldC_of (x:=wp) (n:=wn) (c:=wc) (by rw [add_mk]; exact hB3'.cell 0) ?_))
  have e1:IntKind.wrap .i64 ((off A.cs k:Int)+1)=((off A.cs k+1:Nat):Int):=by rw [IntKind.wrap_i64]; omega
  have e2:IntKind.wrap .i64 (((off A.cs k+1:Nat):Int)+(c.length:Int))=((off A.cs k+1+c.length:Nat):Int):=by rw [IntKind.wrap_i64]; omega
  have hwc:=hW.le.1
  rw [e1,e2]
  refine ⟨by omega,by omega,by omega,by omega,by omega,by omega,?_⟩
  rw [Int.toNat_natCast,Int.toNat_natCast]
  refine ⟨off A.cs k+1+c.length - (off A.cs k+1),?_,rfl⟩
  rw [hwp]
  congr 1
  omega
 refine cl_of ok97 hcut fun e w4 ⟨cc,he,hw4⟩=>⟨_,_,_,he,?_⟩
 subst hw4
 have hN:News w4 1 (slA wp (off A.cs k+1+c.length) (off A.cs k+1) 1) c.length cc (c.map J):=by
  rw [hwp]
  unfold slA
  by_cases h0:off A.cs k+1+c.length=off A.cs k+1
  ·have hcn:c=[]:=List.eq_nil_of_length_eq_zero (by omega)
   rw [if_pos h0]
   subst hcn
   exact Or.inr ⟨_,rfl,rfl,fun j u hu=>by simp at hu⟩
  ·rw [if_neg h0]
   refine Or.inr ⟨(⟨wb,0,none⟩:Addr).add ((off A.cs k+1)*1),rfl,by simp,fun j u hu=>?_⟩
   rw [add_mk,add_mk]
   rw [List.getElem?_map] at hu
   cases hcj:c[j]? with
   | none=>rw [hcj] at hu; cases hu
   | some x=>
    rw [hcj] at hu
    injection hu with hu
    rw [←hu]
    have hx:(words A.cs)[off A.cs k+1+j]?=some x:=by
     have hjl:=(List.getElem?_eq_some_iff.1 hcj).1
     rw [hwd,←hal,List.append_assoc,List.getElem?_append_right (by omega),show ahead.length+1+j - ahead.length=j+1 by omega]
     unfold cw
     rw [List.cons_append,List.getElem?_cons_succ,List.getElem?_append_left hjl]
     exact hcj
    obtain ⟨wb',hwp',hc'⟩:=hWat _ _ hx
    rw [hwp] at hwp'
    injection hwp' with hwp'
    injection hwp' with hwp' _
    subst hwp'
    rw [show 0+(off A.cs k+1)*1+j=off A.cs k+1+j by omega]
    exact hc'
 refine cl_of ok96 (own69 rfl hN (by omega)) fun e w5 ⟨v5,he,p5,c5,hv5,hO5,hf5,k5⟩=>⟨p5,c.length,c5,by rw [he,hv5],Or.inr ⟨k,c,p5,c5,hm,rfl,hc,rfl,hO5,fun i hi=>by have:=hf5 i hi; have:=k13.size; omega,k13.then0 k5⟩⟩
theorem drop38 (h:AR M w b A) (r:Int) :
  Calls Tryz.prog 109 #[.pointer (some ⟨b,0,none⟩),J r] w fun e w'=>(e=.returned (J 2)∧r∉A.live∧Keep None w w')∨(e=.returned (J 0)∧r∈A.live∧∃M',AfA M w b ⟨A.cs,A.live.erase r⟩ M' w'):=by
 refine (V109_calls (some ⟨b,0,none⟩) r w (fun v w'=>(v=J 2∧r∉A.live∧Keep None w w')∨(v=J 0∧r∈A.live∧∃M',AfA M w b ⟨A.cs,A.live.erase r⟩ M' w')) ?_).mono fun e w' ⟨v,he,hk⟩=>?_
 rotate_left
 ·rcases hk with ⟨rfl,hk⟩ | ⟨rfl,hk⟩
  ·exact Or.inl ⟨he,hk⟩
  ·exact Or.inr ⟨he,hk⟩
 unfold V109
 obtain ⟨wp,wn,wc,mr,op,oc,os,hB,hW,hMk,hO,m1,m2,m3,d1,d2,d3⟩:=h.rep
 refine nn_of (ldM_of (x:=some mr) (by rw [add_mk]; exact hB.cell 1) ?_)
 have key:=lkK_of (V:=isFlag) (P:=Tryz.prog) (mty:=155) (kt:=104) (et:=160) (z:=.agg #[.bool false]) (k:=r)
  (K:=fun v b w1=>∃x5:Bool,v=.agg #[.bool x5]∧b=decide (r∈A.live)∧w1=w) Tryz.underlying155 (by kernel_rfl) (by kernel_rfl) hMk (fun v hv hz=>by
   by_cases hm:r∈A.live
   ·obtain ⟨x,hx⟩:=hv hm
    exact ⟨x,hx,rfl,rfl⟩
   ·exact ⟨false,hz hm,rfl,rfl⟩)
 obtain ⟨v,bb,w1,hrun,x5,rfl,rfl,rfl⟩:=key
 refine ⟨x5,_,_,hrun,?_⟩
 refine alc_at fun b7 w2 hb7 hB7 k2=>?_
 have z2:=k2.size
 rw [add_mk]
 refine st_of hB7 (by simp) rfl fun w3 hB3 k3 z3=>?_
 have k13:Keep None w1 w3:=k2.trans k3 fun i hi hh=>by have hh':i=b7:=hh; omega
 refine pif_of (fun hq=>Or.inl ⟨rfl,by simpa using hq,k13⟩) fun hq=>?_
 have hm:r∈A.live:=by simpa using hq
 refine nn_of (ldM_of (x:=some mr) (by rw [add_mk]; exact (hB.keep0 k13).cell 1) ?_)
 refine delK_of (V:=isFlag) Tryz.underlying155 (by kernel_rfl) (hMk.keep0 k13) fun w4 hMk4 k4 z4=>Or.inr ⟨rfl,hm,M,⟨⟨wp,wn,wc,mr,op,oc,os,(hB.keep0 k13).keep k4 fun hh=>d1 (show mr=b from hh.symm),(hW.keep0 k13).keep k4 fun i hi hh=>(d2 i hi).2 hh,hMk4,(hO.keep0 k13).keep k4 fun i hi hh=>(d3 i hi).2.1 hh,m1,m2,m3,d1,d2,d3⟩,h.own,fun i hi=>by have:=h.lt i hi; have:=k13.size; omega,fun x hx=>h.lv x (List.mem_of_mem_erase hx)⟩,fun i hi=>Or.inl hi,(k13.none (S:=M)).trans k4 fun i _ hh=>by rw [show i=mr from hh]; exact m1⟩
end
end Go.Proofs.YtmhjehodfggleaaGreat.Arn
