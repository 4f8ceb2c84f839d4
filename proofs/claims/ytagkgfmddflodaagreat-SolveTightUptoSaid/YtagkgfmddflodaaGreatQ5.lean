/- One part of the texts on which the proof of a law rests: read the last one first. -/
import Derived.Test.YtagkgfmddflodaaGreatQ4
import Derived.Test.YtagkgfmddflodaaGreatProg
set_option linter.unusedVariables false
set_option linter.unusedSimpArgs false
set_option linter.unusedSectionVars false
set_option maxRecDepth 100000
namespace Go.Proofs.YtagkgfmddflodaaGreat
namespace eR
open Go Vc T
def A2 (x:Nat):Bool:=(FloatKind.format .f64).order x amg==some .gt
def mX (sc:List Nat) (it pl:List Int) (v:Int):List Int:=
 if 0<=pl.getD (v - 1).toNat (-1) then Gn (jK sc) (it.getD (pl.getD (v - 1).toNat (-1)).toNat 0) it (pl.getD (v - 1).toNat (-1)).toNat else it
theorem I3 (sc:List Nat) (it pl:List Int) (v:Int):(mX sc it pl v).length=it.length:=by
 unfold mX; split
 ·rw [KE]
 ·rfl
section
variable {w:World} {h sb ib pb:Nat} {sc:List Nat} {step aK:Nat} {it rest pl:List Int}
theorem eR.RW {w w1 w2:World} {vK:List Nat} {zY:Nat} {L:List Int} (k:af (HF h sb ib pb) w w1) (hh:eR w1 h sb ib pb vK zY aK rest L w2):eR w h sb ib pb vK zY aK rest L w2:=
 ⟨k.trans hh.1 λ_ _ h=>h,hh.2⟩
theorem RX (hR:nk w h sb ib pb sc step aK it rest pl) (hs:sc.length<=1048576) (hi:it.length<=1048576) (hf:FC sc.length it pl) {v:Int} (v1:1<=v) (v2:v<=sc.length) {y:Nat} {Fz:List Nat} {ef:Nat} {I4:List Int}
  (sw:(FloatKind.format .f64).add (sc.getD (v - 1).toNat 0) step=some y)
  (J9:A2 y=false->Fz=sc.set (v - 1).toNat y/\ef=step/\I4=mX (sc.set (v - 1).toNat y) it pl v)
  (hhi:A2 y=true->scaled (sc.set (v - 1).toNat y) Fz/\(FloatKind.format .f64).mul step small=some ef/\I4=kg (jK Fz) (it.length / 2) (mX (sc.set (v - 1).toNat y) it pl v)) :
  Calls Tryz.prog 107 #[.pointer (some ⟨h,0,none⟩),I v] w λe w'=>e=.returned (I 0)/\eR w h sb ib pb Fz ef aK rest I4 w':=by
 refine (IN (some ⟨h,0,none⟩) v w (λr w'=>r=I 0/\eR w h sb ib pb Fz ef aK rest I4 w') ?_).mono λe w' ⟨v,he,hv,hk⟩=>⟨by rw [he,hv],hk⟩
 unfold agp;refine az Yo (Yu hR v) λe w1 ⟨he,hw⟩=>⟨_,he,?_⟩
 subst hw;have eo:(decide (1<=v)&&decide (v<=sc.length))=true:=by simp [v1,v2]
 rw [eo];refine aT rfl (ay ?_);have hl:=hR.len;have ew:IntKind.wrap .i64 (v - 1)=v - 1:=by rw [IntKind.wrap_i64]; omega
 simp only [ag,Nat.add_zero,Nat.reduceAdd,Nat.zero_add,ew];have dm:=hR.drew;have kd:af (HF h sb ib pb) w1 w1.drew:=(af.refl _ _).drew;generalize w1.drew=w2 at *
 have hv:(v - 1).toNat<sc.length:=by omega
 refine au (dm.obj.cell 0) (cu (by omega) (by omega) ?_);refine dY (x:=sc.getD (v - 1).toNat 0) (by rw [dm.gP.cell,List.getElem?_map,List.getD_eq_getElem?_getD,List.getElem?_eq_getElem hv]; rfl) (ay ?_);refine dY (dm.obj.cell 1) ⟨_,sw,cu (by omega) (by omega) ?_⟩;simp only [ag,Nat.add_zero];refine aG dm.gP (by rw [List.length_map]; exact hv) rfl λw3 h3 k3 _=>?_;rw [<-List.map_set] at h3;have oD:nk w3 h sb ib pb (sc.set (v - 1).toNat y) step aK it rest pl:=by
  refine ⟨?_,h3,dm.items.aJ k3 (Ne.symm hR.si),dm.jE.aJ k3 (Ne.symm hR.sp),by simpa using hR.len,hR.hs,hR.hi,hR.hp,hR.si,hR.sp,hR.ip⟩;have:=dm.obj.aJ k3 hR.hs;simpa using this
 have Kg:af (HF h sb ib pb) w1 w3:=kd.thenS k3 (by simp [HF]);have hlen:(sc.set (v - 1).toNat y).length=sc.length:=by simp
 generalize hq:sc.set (v - 1).toNat y=sc1 at *
 have E_:FC sc1.length it pl:=by rw [hlen]; exact hf
 have hvp:(v - 1).toNat<pl.length:=by omega
 have hy:sc1.getD (v - 1).toNat 0=y:=by
  rw [<-hq,List.getD_eq_getElem?_getD,List.getElem?_set,if_pos rfl,if_pos hv]; rfl
 -- yf heap
 refine ⟨λ_ w4=>eR w1 h sb ib pb sc1 step aK rest (mX sc1 it pl v) w4,?_,?_⟩
 ·refine ay ?_;have hx:pl[(v - 1).toNat]?=some (pl.getD (v - 1).toNat (-1)):=by
   rw [List.getD_eq_getElem?_getD,List.getElem?_eq_getElem hvp]; rfl
  refine az Yq (Yv oD v1 (by omega) (by omega) hx) λe w4 ⟨he,hw⟩=>⟨_,he,?_⟩
  subst hw;unfold mX;by_cases hp:0<=pl.getD (v - 1).toNat (-1)
  ·rw [if_pos hp];refine aX (by simpa using hp) (ay (ay ?_));have hRe:=oD.drew;have ke:=Kg.drew;generalize w4.drew=w5 at *
   refine au (hRe.obj.cell 4) (cu (by omega) (by omega) ?_);refine ah (x:=pl.getD (v - 1).toNat (-1)) (by rw [hRe.jE.cell,List.getElem?_map,hx]; rfl) ?_
   -- v amh there
   have nB:∃i:Nat,it[i]?=some v:=Classical.byContradiction λhn=>by
    have:=hf.out v v1 v2 λi hi=>hn ⟨i,hi⟩;rw [hx] at this;injection this with this;omega
   obtain ⟨i,cW⟩:=nB;have Lq:=(hf.jr i v cW).2.2;rw [hx] at Lq;injection Lq with Lq;have aM:=(List.getElem?_eq_some_iff.1 cW).1;rw [Lq,Int.toNat_natCast];refine az Yr (amf hRe (by omega) hi E_ aM) λe w6 ⟨he,hL⟩=>⟨he,eR.RW ke hL.M5⟩
  ·rw [if_neg hp];refine aT (by simpa using hp) ?_;exact ⟨Kg,pl,oD,E_⟩
 ·rintro ⟨⟩ w4 ⟨k4,pl4,uR,LU⟩;refine ⟨λ_ w5=>eR w1 h sb ib pb Fz ef aK rest I4 w5,?_,λ_ w5 hw=>⟨by first | rfl | trivial,hw⟩⟩;refine ay ?_;refine au (uR.obj.cell 0) (cu (by omega) (by omega) ?_);refine dY (x:=y) (by rw [uR.gP.cell,List.getElem?_map,<-hy,List.getD_eq_getElem?_getD,List.getElem?_eq_getElem (by omega)]; rfl) ?_;have eo:((FloatKind.format .f64).order y 6103021453049119613==some .gt)=A2 y:=rfl;rw [eo];refine aF (λhb=>?_) λhb=>?_
  ·obtain ⟨g1,g2,g3⟩:=hhi hb;rw [g3];have JG:=I3 sc1 it pl v;have:=KF uR (by omega) (by omega) LU g1 g2;rw [JG] at this;exact az Yp this λe w5 ⟨he,hH⟩=>⟨he,eR.RW k4 hH⟩
  ·obtain ⟨g1,g2,g3⟩:=J9 hb;rw [g1,g2,g3];exact ⟨k4,pl4,uR,LU⟩
theorem RY (hR:nk w h sb ib pb sc step aK it rest pl) (hs:sc.length<=1048576) (hi:it.length<=1048576) (hf:FC sc.length it pl) {y:Nat} {Fz:List Nat} {ef:Nat} {I4:List Int}
  (hdiv:(FloatKind.format .f64).div step aK=some y) (J9:A2 y=false->Fz=sc/\ef=y/\I4=it)
  (hhi:A2 y=true->scaled sc Fz/\(FloatKind.format .f64).mul y small=some ef/\I4=kg (jK Fz) (it.length / 2) it) :
  Calls Tryz.prog 108 #[.pointer (some ⟨h,0,none⟩)] w λe w'=>e=.returned (.tuple #[])/\eR w h sb ib pb Fz ef aK rest I4 w':=by
 refine (IQ (some ⟨h,0,none⟩) w (zV (eR w h sb ib pb Fz ef aK rest I4)) ?_).mono λe w' ⟨v,he,hv,hk⟩=>⟨by rw [he,hv],hk⟩
 unfold agr;have dm:=hR.drew;have kd:af (HF h sb ib pb) w w.drew:=(af.refl _ _).drew;generalize w.drew=w2 at *
 refine ay ?_;simp only [ag,Nat.add_zero,Nat.reduceAdd,Nat.zero_add];refine dY (dm.obj.cell 1) (ay (dY (dm.obj.cell 2) ⟨_,hdiv,ay ?_⟩));refine aG dm.obj (by simp) rfl λw3 h3 k3 _=>ay ?_;have oD:nk w3 h sb ib pb sc y aK it rest pl:=
  ⟨h3,dm.gP.aJ k3 (Ne.symm hR.hs),dm.items.aJ k3 (Ne.symm hR.hi),dm.jE.aJ k3 (Ne.symm hR.hp),dm.len,hR.hs,hR.hi,hR.hp,hR.si,hR.sp,hR.ip⟩
 have Kg:af (HF h sb ib pb) w w3:=kd.thenS k3 (by simp [HF]);refine dY (h3.cell 1) ?_;have eo:((FloatKind.format .f64).order y 6103021453049119613==some .gt)=A2 y:=rfl;rw [eo];refine aF (λhb=>?_) λhb=>?_
 ·obtain ⟨g1,g2,g3⟩:=hhi hb;rw [g3];exact az Yp (KF oD hs hi hf g1 g2) λe w5 ⟨he,hH⟩=>⟨he,rfl,eR.RW Kg hH⟩
 ·obtain ⟨g1,g2,g3⟩:=J9 hb;rw [g1,g2,g3];exact ⟨rfl,Kg,pl,oD,hf⟩
end
end eR
namespace Fl
open Go Vc Ieee
abbrev d64:Format:=FloatKind.format .f64
def Bn:Nat:=4503599627370496
def iK:Nat:=9218868437227405312
theorem BN:d64.binade=Bn:=by decide +kernel
theorem I5:d64.infRung=iK:=by decide +kernel
theorem agJ:d64.signWeight=9223372036854775808:=by decide +kernel
theorem FA:d64.leastPlace=-1074:=by decide +kernel
theorem agK:d64.fractionBits=52:=rfl
theorem zZ:Bn=2 ^ 52:=by decide +kernel
def mg (x:Nat):Nat:=if x<Bn then x else Bn+x%Bn
def sh (x:Nat):Nat:=if x<Bn then 0 else x / Bn - 1
def V (x:Nat):Nat:=mg x*2 ^ sh x
theorem h_ {x:Nat} (h:x<iK):d64.read x=.number false (mg x) (-1074+(sh x:Int)):=by
 unfold Format.read;rw [agJ,BN,I5,FA];have e1:x / 9223372036854775808%2=0:=by unfold iK at h; omega
 have e2:x%9223372036854775808=x:=by unfold iK at h; omega
 simp only [e1,e2];unfold mg sh;by_cases hb:x<Bn
 ·rw [if_pos hb,if_pos hb,if_pos hb]; rfl
 ·rw [if_neg hb,if_neg hb,if_neg hb,if_pos h]; rfl
theorem jX:d64.read iK=.infinity false:=by decide +kernel
theorem agL {x y:Nat} (h:x<y):V x<V y:=by
 unfold V mg sh;have hB:0<Bn:=by decide
 by_cases hx:x<Bn
 ·rw [if_pos hx,if_pos hx,Nat.pow_zero,Nat.mul_one];by_cases hy:y<Bn
  ·rw [if_pos hy,if_pos hy,Nat.pow_zero,Nat.mul_one]; exact h
  ·rw [if_neg hy,if_neg hy];have hp:0<2 ^ (y / Bn - 1):=Nat.two_pow_pos _;have:(Bn+y%Bn)*1<=(Bn+y%Bn)*2 ^ (y / Bn - 1):=Nat.mul_le_mul_left _ hp;omega
 ·have hy:¬y<Bn:=by omega
  rw [if_neg hx,if_neg hx,if_neg hy,if_neg hy];have rx:x%Bn<Bn:=Nat.mod_lt _ hB;have ry:y%Bn<Bn:=Nat.mod_lt _ hB;have dx:=Nat.div_add_mod x Bn;have dy:=Nat.div_add_mod y Bn;have qx:1<=x / Bn:=(Nat.le_div_iff_mul_le hB).2 (by omega);have hq:x / Bn<=y / Bn:=Nat.div_le_div_right (Nat.le_of_lt h);generalize x / Bn=a at *
  generalize y / Bn=b at *
  generalize x%Bn=r at *
  generalize y%Bn=s at *
  rcases Nat.lt_or_ge a b with hab | hab
  ·have e1:(Bn+r)*2 ^ (a - 1)<(2*Bn)*2 ^ (a - 1):=Nat.mul_lt_mul_of_pos_right (by omega) (Nat.two_pow_pos _);have e2:(2*Bn)*2 ^ (a - 1)=Bn*2 ^ a:=by
    have:2 ^ a=2*2 ^ (a - 1):=by rw [<-Nat.pow_succ']; congr 1; omega
    rw [this,Nat.mul_comm 2 Bn,Nat.mul_assoc]
   have e3:Bn*2 ^ a<=Bn*2 ^ (b - 1):=Nat.mul_le_mul_left _ (Nat.pow_le_pow_right (by omega) (by omega));have e4:Bn*2 ^ (b - 1)<=(Bn+s)*2 ^ (b - 1):=Nat.mul_le_mul_right _ (by omega);omega
  ·obtain rfl:a=b:=by omega
   have Rk:r<s:=by
    have:Bn*a+r<Bn*a+s:=by omega
    omega
   exact Nat.mul_lt_mul_of_pos_right (by omega) (Nat.two_pow_pos _)
theorem ami {x y:Nat} (h:x<=y):V x<=V y:=by
 rcases Nat.lt_or_ge x y with h1 | h1
 ·exact Nat.le_of_lt (agL h1)
 ·rw [show x=y by omega]; exact Nat.le_refl _
theorem V9 {x y:Nat} {a b:Int} (h1:a<b↔x<y) (h2:b<a↔y<x):compare a b=compare x y:=by
 rcases Nat.lt_trichotomy x y with h | h | h
 ·rw [Int.compare_eq_lt.2 (h1.2 h),Nat.compare_eq_lt.2 h]
 ·subst h;have:a=b:=by
   have n1:¬a<b:=λhh=>absurd (h1.1 hh) (by omega);have n2:¬b<a:=λhh=>absurd (h2.1 hh) (by omega);omega
  rw [Int.compare_eq_eq.2 this,Nat.compare_eq_eq.2 rfl]
 ·rw [Int.compare_eq_gt.2 (h2.2 h),Nat.compare_eq_gt.2 h]
theorem KG {x b:Nat} (hb:b<=sh x):(mg x <<< (sh x - b))*2 ^ b=V x:=by
 rw [Nat.shiftLeft_eq,Nat.mul_assoc,<-Nat.pow_add,Nat.sub_add_cancel hb]; rfl
theorem ord {x y:Nat} (hx:x<=iK) (hy:y<=iK):d64.order x y=some (compare x y):=by
 unfold Format.order;rcases Nat.lt_or_ge x iK with lU | lU
 ·rw [h_ lU];rcases Nat.lt_or_ge y iK with oy | oy
  ·rw [h_ oy];simp only [Datum.order,signed,Bool.false_eq_true,if_false];congr 1;have e:min (-1074+(sh x:Int)) (-1074+(sh y:Int))=-1074+((min (sh x) (sh y):Nat):Int):=by omega
   rw [e];have ex:((-1074+(sh x:Int)) - (-1074+((min (sh x) (sh y):Nat):Int))).toNat=sh x - min (sh x) (sh y):=by omega
   have ey:((-1074+(sh y:Int)) - (-1074+((min (sh x) (sh y):Nat):Int))).toNat=sh y - min (sh x) (sh y):=by omega
   rw [ex,ey];have vx:=KG (x:=x) (b:=min (sh x) (sh y)) (Nat.min_le_left _ _);have vy:=KG (x:=y) (b:=min (sh x) (sh y)) (Nat.min_le_right _ _);have hp:0<2 ^ min (sh x) (sh y):=Nat.two_pow_pos _;generalize mg x <<< (sh x - min (sh x) (sh y))=p at *
   generalize mg y <<< (sh y - min (sh x) (sh y))=q at *
   generalize 2 ^ min (sh x) (sh y)=k at *
   have key:∀{p q x y:Nat},p*k=V x->q*k=V y->(p<q↔x<y):=λ{p q x y} h1 h2=>by
    constructor
    ·intro h;apply Classical.byContradiction;intro hn;have:=ami (x:=y) (y:=x) (by omega);rw [<-h1,<-h2] at this;have:=Nat.mul_lt_mul_of_pos_right h hp;omega
    ·intro h;have:=agL h;rw [<-h1,<-h2] at this;exact Nat.lt_of_mul_lt_mul_right this
   exact V9 (by rw [<-key vx vy]; omega) (by rw [<-key vy vx]; omega)
  ·obtain rfl:y=iK:=by omega
   rw [jX];simp only [Datum.order,Bool.false_eq_true,if_false];rw [Nat.compare_eq_lt.2 lU]
 ·obtain rfl:x=iK:=by omega
  rw [jX];rcases Nat.lt_or_ge y iK with oy | oy
  ·rw [h_ oy];simp only [Datum.order,Bool.false_eq_true,if_false];rw [Nat.compare_eq_gt.2 oy]
  ·obtain rfl:y=iK:=by omega
   rw [jX];simp only [Datum.order];rw [Nat.compare_eq_eq.2 rfl]; rfl
theorem KH (m:Nat) (e:Int):d64.nearest false m e<=iK:=by
 unfold Format.nearest;rw [I5];have hw:∀r,d64.word false r=r:=λr=>by unfold Format.word; simp
 rw [hw];split
 ·exact Nat.zero_le _
 ·rw [hw]; exact Nat.min_le_right _ _
def Oq (M d:Nat):Nat:=M / 2 ^ d+(decide (2 ^ d<2*(M%2 ^ d)) || (2 ^ d==2*(M%2 ^ d)&&M / 2 ^ d%2==1)).toNat
def Nn (M:Nat):Nat:=if M=0 then 0 else (M.log2 - 52)*Bn+Oq M (M.log2 - 52)
theorem vj {t b:Nat} (ht:t≠0):(t*2 ^ b).log2=t.log2+b:=by
 have hp:0<2 ^ b:=Nat.two_pow_pos _;have bz:t*2 ^ b≠0:=Nat.mul_ne_zero ht (by omega);rw [Nat.log2_eq_iff bz];have h1:=Nat.log2_self_le ht;have h2:=Nat.lt_log2_self (n:=t);constructor
 ·rw [Nat.pow_add]; exact Nat.mul_le_mul_right _ h1
 ·rw [show t.log2+b+1=(t.log2+1)+b by omega,Nat.pow_add]; exact Nat.mul_lt_mul_of_pos_right h2 hp
theorem V_ (t b:Nat):d64.nearest false t (-1074+(b:Int))=min (Nn (t*2 ^ b)) iK:=by
 unfold Format.nearest;rw [I5,BN,FA,agK];have hw:∀r,d64.word false r=r:=λr=>by unfold Format.word; simp
 by_cases ht:t=0
 ·subst ht;rw [if_pos rfl,Nat.zero_mul,hw];exact (Nat.zero_min _).symm
 ·rw [if_neg ht,hw];have hp:0<2 ^ b:=Nat.two_pow_pos _;have bz:t*2 ^ b≠0:=Nat.mul_ne_zero ht (by omega);have hl:=vj (b:=b) ht;unfold Nn;rw [if_neg bz,hl];generalize hL:t.log2=L at *
  generalize hd:L+b - 52=d;have agM:max (-1074+(b:Int)+(L:Int) - ((52:Nat):Int)) (-1074)=-1074+(d:Int):=by omega
  simp only [agM];have e1:(-1074+(b:Int) - (-1074+(d:Int))).toNat=b - d:=by omega
  have e2:(-1074+(d:Int) - (-1074+(b:Int))).toNat=d - b:=by omega
  have e3:(-1074+(d:Int) - (-1074)).toNat=d:=by omega
  rw [e1,e2,e3];have key:Toward.even.cut false (t <<< (b - d)) (d - b)=Oq (t*2 ^ b) d:=by
   unfold Toward.cut Oq;rcases Nat.le_total d b with hdb | hdb
   ·have z:d - b=0:=by omega
    rw [z];simp only [Nat.zero_min,Nat.shiftLeft_zero,Nat.div_one,Nat.mod_one,Nat.mul_zero];have q:t*2 ^ b=(t <<< (b - d))*2 ^ d:=by rw [Nat.shiftLeft_eq,Nat.mul_assoc,<-Nat.pow_add,Nat.sub_add_cancel hdb]
    rw [q,Nat.mul_div_cancel _ (Nat.two_pow_pos d),Nat.mul_mod_left];have hpd:0<2 ^ d:=Nat.two_pow_pos d;have n1:¬2 ^ d<2*0:=by omega
    have n2:¬2 ^ d=2*0:=by omega
    simp [n1,n2]
   ·have z:b - d=0:=by omega
    rw [z,Nat.shiftLeft_zero];have zu:t.log2+2 >= d - b:=by omega
    have em:min (d - b) (t.log2+2)=d - b:=Nat.min_eq_left zu;rw [em,Nat.one_shiftLeft];have pd:2 ^ d=2 ^ (d - b)*2 ^ b:=by rw [<-Nat.pow_add,Nat.sub_add_cancel hdb]
    have ed:t*2 ^ b / 2 ^ d=t / 2 ^ (d - b):=by rw [pd,Nat.mul_div_mul_right _ _ hp]
    have emo:t*2 ^ b%2 ^ d=t%2 ^ (d - b)*2 ^ b:=by rw [pd,Nat.mul_mod_mul_right]
    rw [ed,emo,pd];have c1:(decide (2 ^ (d - b)*2 ^ b<2*(t%2 ^ (d - b)*2 ^ b)))=decide (2 ^ (d - b)<2*(t%2 ^ (d - b))):=by
     rw [<-Nat.mul_assoc];exact decide_eq_decide.2 (Nat.mul_lt_mul_right hp)
    have c2:(2 ^ (d - b)*2 ^ b==2*(t%2 ^ (d - b)*2 ^ b))=(2 ^ (d - b)==2*(t%2 ^ (d - b))):=by
     rw [<-Nat.mul_assoc,Bool.eq_iff_iff,beq_iff_eq,beq_iff_eq];exact Nat.mul_left_inj (by omega)
    rw [c1,c2]
  rw [key]
theorem RZ (M d:Nat):M / 2 ^ d<=Oq M d:=Nat.le_add_right _ _
theorem R1 (M d:Nat):Oq M d<=M / 2 ^ d+1:=by
 unfold Oq;have:=Bool.toNat_le (decide (2 ^ d<2*(M%2 ^ d)) || (2 ^ d==2*(M%2 ^ d)&&M / 2 ^ d%2==1));omega
theorem R2 {M M':Nat} (h:M<=M') (d:Nat):Oq M d<=Oq M' d:=by
 have hp:0<2 ^ d:=Nat.two_pow_pos d;have hq:=Nat.div_le_div_right (c:=2 ^ d) h;rcases Nat.lt_or_ge (M / 2 ^ d) (M' / 2 ^ d) with aM | bL
 ·have:=R1 M d;have:=RZ M' d;omega
 ·have eq:M / 2 ^ d=M' / 2 ^ d:=by omega
  have d1:=Nat.div_add_mod M (2 ^ d);have d2:=Nat.div_add_mod M' (2 ^ d);rw [<-eq] at d2;have hr:M%2 ^ d<=M'%2 ^ d:=by omega
  unfold Oq;rw [eq];refine Nat.add_le_add_left ?_ _;generalize M%2 ^ d=r at *
  generalize M'%2 ^ d=r' at *
  generalize 2 ^ d=k at *
  generalize (M' / k%2==1)=od;by_cases c:k<2*r'
  ·simp only [c,decide_true,Bool.true_or,Bool.toNat_true]; exact Bool.toNat_le _
  ·have c0:¬k<2*r:=by omega
   by_cases c1:k=2*r
   ·have:k=2*r':=by omega
    have hrr:r=r':=by omega
    rw [hrr]; exact Nat.le_refl _
   ·have c2:(k==2*r)=false:=by simpa using c1
    simp [c0,c2]
theorem Wa:Nn 0=0:=rfl
theorem Wb {M:Nat} (h:M≠0) (hl:52<=M.log2):Bn<=M / 2 ^ (M.log2 - 52)/\M / 2 ^ (M.log2 - 52)<2*Bn:=by
 have h1:=Nat.log2_self_le h;have h2:=Nat.lt_log2_self (n:=M);have hp:0<2 ^ (M.log2 - 52):=Nat.two_pow_pos _;have e1:Bn*2 ^ (M.log2 - 52)=2 ^ M.log2:=by rw [zZ,<-Nat.pow_add]; congr 1; omega
 refine ⟨(Nat.le_div_iff_mul_le hp).2 (by omega),(Nat.div_lt_iff_lt_mul hp).2 ?_⟩;rw [Nat.mul_assoc,e1,<-Nat.pow_succ']; exact h2
theorem vn {M:Nat} (hl:M.log2<=52):Nn M=M:=by
 unfold Nn;by_cases h:M=0
 ·rw [if_pos h,h]
 ·rw [if_neg h,show M.log2 - 52=0 by omega];simp [Oq,Nat.mod_one]
theorem FB {M:Nat} (h:M≠0) (hl:52<=M.log2):(M.log2 - 52+1)*Bn<=Nn M/\Nn M<=(M.log2 - 52+2)*Bn:=by
 unfold Nn;rw [if_neg h];have h1:=Wb h hl;have h2:=RZ M (M.log2 - 52);have h3:=R1 M (M.log2 - 52);rw [Nat.add_mul,Nat.add_mul];omega
theorem Wc {M M':Nat} (h:M<=M'):Nn M<=Nn M':=by
 by_cases h0:M=0
 ·rw [h0,Wa]; exact Nat.zero_le _
 have h0':M'≠0:=by omega
 have hL:M.log2<=M'.log2:=(Nat.le_log2 h0').2 (Nat.le_trans (Nat.log2_self_le h0) h);rcases Nat.lt_or_ge M.log2 M'.log2 with aM | bL
 ·rcases Nat.lt_or_ge M'.log2 53 with h53 | h53
  ·rw [vn (by omega),vn (by omega)]; exact h
  ·have r':=(FB h0' (by omega)).1;rcases Nat.lt_or_ge M.log2 52 with h52 | h52
   ·rw [vn (by omega)];have:M<2 ^ (M.log2+1):=Nat.lt_log2_self;have:2 ^ (M.log2+1)<=2 ^ 52:=Nat.pow_le_pow_right (by omega) (by omega);have:1*Bn<=(M'.log2 - 52+1)*Bn:=Nat.mul_le_mul_right _ (by omega);rw [<-zZ] at *
    omega
   ·have r:=(FB h0 h52).2;have:(M.log2 - 52+2)*Bn<=(M'.log2 - 52+1)*Bn:=Nat.mul_le_mul_right _ (by omega);omega
 ·have eq:M.log2=M'.log2:=by omega
  unfold Nn;rw [if_neg h0,if_neg h0',eq];exact Nat.add_le_add_left (R2 h _) _
theorem R3 (x:Nat):Nn (V x)=x:=by
 unfold V mg sh;by_cases hx:x<Bn
 ·rw [if_pos hx,if_pos hx,Nat.pow_zero,Nat.mul_one];refine vn ?_;by_cases h0:x=0
  ·subst h0; decide
  ·have:=(Nat.log2_lt h0 (k:=52)).2 (by rw [<-zZ]; exact hx);omega
 ·rw [if_neg hx,if_neg hx];have hB:0<Bn:=by decide
  have rx:x%Bn<Bn:=Nat.mod_lt _ hB;have dx:=Nat.div_add_mod x Bn;have qx:1<=x / Bn:=(Nat.le_div_iff_mul_le hB).2 (by omega);generalize x / Bn=a at *
  generalize x%Bn=r at *
  have hl:(Bn+r).log2=52:=by
   rw [Nat.log2_eq_iff (by omega),<-zZ,Nat.pow_succ,<-zZ]; omega
  have bz:Bn+r≠0:=by omega
  have zu:=vj (b:=a - 1) bz;have hp:0<2 ^ (a - 1):=Nat.two_pow_pos _;unfold Nn;rw [if_neg (Nat.mul_ne_zero bz (by omega)),zu,hl,show 52+(a - 1) - 52=a - 1 by omega];have er:Oq ((Bn+r)*2 ^ (a - 1)) (a - 1)=Bn+r:=by
   unfold Oq;rw [Nat.mul_div_cancel _ hp,Nat.mul_mod_left];have n1:¬2 ^ (a - 1)<2*0:=by omega
   have n2:¬2 ^ (a - 1)=2*0:=by omega
   simp [n1,n2]
  rw [er,Nat.sub_mul,Nat.one_mul];have:Bn*a=a*Bn:=Nat.mul_comm _ _;have:Bn<=a*Bn:=Nat.le_mul_of_pos_left _ qx;omega
theorem vo:d64.write (.infinity false)=iK:=by decide +kernel
theorem add_eq {x y:Nat} (hx:x<iK) (hy:y<iK):d64.add x y=some (min (Nn (V x+V y)) iK):=by
 unfold Format.add;rw [h_ hx,h_ hy];simp only [Datum.sum,signed,Bool.false_eq_true,if_false,Option.map_some];have e:min (-1074+(sh x:Int)) (-1074+(sh y:Int))=-1074+((min (sh x) (sh y):Nat):Int):=by omega
 rw [e];have ex:((-1074+(sh x:Int)) - (-1074+((min (sh x) (sh y):Nat):Int))).toNat=sh x - min (sh x) (sh y):=by omega
 have ey:((-1074+(sh y:Int)) - (-1074+((min (sh x) (sh y):Nat):Int))).toNat=sh y - min (sh x) (sh y):=by omega
 rw [ex,ey];have vx:=KG (x:=x) (b:=min (sh x) (sh y)) (Nat.min_le_left _ _);have vy:=KG (x:=y) (b:=min (sh x) (sh y)) (Nat.min_le_right _ _);generalize mg x <<< (sh x - min (sh x) (sh y))=p at *
 generalize mg y <<< (sh y - min (sh x) (sh y))=q at *
 congr 1;have es:(if ((p:Int)+(q:Int))=0 then (false&&false) else decide (((p:Int)+(q:Int))<0))=false:=by
  split
  ·rfl
  ·simp; omega
 rw [es];have en:((p:Int)+(q:Int)).natAbs=p+q:=by omega
 rw [en];show d64.nearest false (p+q) _=_;rw [V_,Nat.add_mul,vx,vy]
theorem abK {x y:Nat} (hx:x<=iK) (hy:y<=iK):∃z,d64.add x y=some z/\z<=iK/\x<=z:=by
 rcases Nat.lt_or_ge x iK with lU | lU
 ·rcases Nat.lt_or_ge y iK with oy | oy
  ·refine ⟨_,add_eq lU oy,Nat.min_le_right _ _,?_⟩;have:=Wc (Nat.le_add_right (V x) (V y));rw [R3] at this;exact Nat.le_min.2 ⟨this,hx⟩
  ·obtain rfl:y=iK:=by omega
   refine ⟨iK,?_,Nat.le_refl _,hx⟩;unfold Format.add;rw [h_ lU,jX];simp only [Datum.sum,Option.map_some,vo]
 ·obtain rfl:x=iK:=by omega
  refine ⟨iK,?_,Nat.le_refl _,Nat.le_refl _⟩;unfold Format.add;rw [jX];rcases Nat.lt_or_ge y iK with oy | oy
  ·rw [h_ oy]; simp only [Datum.sum,Option.map_some,vo]
  ·obtain rfl:y=iK:=by omega
   rw [jX]; decide +kernel
theorem abL {x y m:Nat} {e:Int} (hx:x<=iK) (hy:d64.read y=.number false m e) (hm:m≠0):∃z,d64.mul x y=some z/\z<=iK:=by
 unfold Format.mul;rw [hy];rcases Nat.lt_or_ge x iK with lU | lU
 ·rw [h_ lU];exact ⟨_,rfl,KH _ _⟩
 ·obtain rfl:x=iK:=by omega
  rw [jX];simp only [Datum.product,hm,if_false,Option.map_some];exact ⟨_,rfl,by show d64.write (.infinity (false ^^ false))<=iK; rw [show (false ^^ false)=false by rfl,vo]; exact Nat.le_refl _⟩
theorem abM {x y m:Nat} {e:Int} (hx:x<=iK) (hy:d64.read y=.number false m e) (hm:m≠0):∃z,d64.div x y=some z/\z<=iK:=by
 unfold Format.div;rw [hy];rcases Nat.lt_or_ge x iK with lU | lU
 ·rw [h_ lU];simp only [Datum.quotient,hm,if_false,Option.map_some];exact ⟨_,rfl,KH _ _⟩
 ·obtain rfl:x=iK:=by omega
  rw [jX];simp only [Datum.quotient,Option.map_some];exact ⟨_,rfl,by show d64.write (.infinity (false ^^ false))<=iK; rw [show (false ^^ false)=false by rfl,vo]; exact Nat.le_refl _⟩
end Fl
namespace N_
open Go
def g (z:List Int) (k:Nat):Int:=z.getD k 0
def swp (z:List Int) (i j:Nat):List Int:=(z.set j (g z i)).set i (g z j)
theorem C4 (z:List Int) (i j:Nat):(swp z i j).length=z.length:=by simp [swp]
theorem mY {z:List Int} {k:Nat} (h:k<z.length):z[k]?=some (g z k):=by
 unfold g; rw [List.getD_eq_getElem?_getD,List.getElem?_eq_getElem h]; rfl
theorem rm {z:List Int} {i k:Nat} {x:Int} (hi:i<z.length):g (z.set i x) k=if k=i then x else g z k:=by
 unfold g;rw [List.getD_eq_getElem?_getD,List.getElem?_set,List.getD_eq_getElem?_getD];by_cases h:k=i
 ·subst h; simp [hi]
 ·rw [if_neg (Ne.symm h),if_neg h]
theorem FD {z:List Int} {i j k:Nat} (hi:i<z.length) (hj:j<z.length):g (swp z i j) k=if k=i then g z j else if k=j then g z i else g z k:=by
 unfold swp;rw [rm (by simpa using hi),rm hj]
theorem nV {z:List Int} {k:Nat} (h:k<z.length):g z k∈z:=List.mem_of_getElem? (mY h)
theorem ru {z:List Int} {i j:Nat} (hi:i<z.length) (hj:j<z.length):(swp z i j).Perm z:=by
 have e1:g z i=z[i]:=by unfold g; rw [List.getD_eq_getElem?_getD,List.getElem?_eq_getElem hi]; rfl
 have e2:g z j=z[j]:=by unfold g; rw [List.getD_eq_getElem?_getD,List.getElem?_eq_getElem hj]; rfl
 unfold swp;rw [e1,e2];exact List.set_set_perm hj hi
end N_
namespace eR
open Go Vc T
open N_ (g swp FD C4 ru mY nV rm)
structure Od (bf:Int->Int->Bool) (D:Int->Prop):Prop where
 asym:∀x y,D x->D y->bf x y=true->bf y x=false
 trans:∀x y z,D x->D y->D z->bf y x=false->bf z y=false->bf z x=false
def HpB (bf:Int->Int->Bool) (L:List Int):Prop:=∀k,1<=k->k<L.length->bf (g L k) (g L ((k - 1) / 2))=false
section
variable {bf:Int->Int->Bool} {D:Int->Prop}
theorem Od.irr (o:Od bf D) {x:Int} (h:D x):bf x x=false:=by
 cases hq:bf x x with
 | true=>rw [<-hq]; exact o.asym x x h h hq
 | false=>rfl
theorem R4 {L:List Int} {a p:Nat} {x:Int} (ha:a<L.length) (hp:p<L.length) (bz:a≠p):swp (L.set a x) a p=(L.set a (g L p)).set p x:=by
 have e1:g (L.set a x) a=x:=by rw [rm ha,if_pos rfl]
 have e2:g (L.set a x) p=g L p:=by rw [rm ha,if_neg (Ne.symm bz)]
 unfold swp;rw [e1,e2,List.set_comm _ _ bz,List.set_set,List.set_comm _ _ (Ne.symm bz)]
theorem Yy (o:Od bf D):∀(a:Nat) (L:List Int) (x:Int),a<L.length->(∀y∈L.set a x,D y)->
  (∀k,1<=k->k<L.length->k≠a->bf (g (L.set a x) k) (g (L.set a x) ((k - 1) / 2))=false)->
  (1<=a->∀k,1<=k->k<L.length->(k - 1) / 2=a->bf (g (L.set a x) k) (g (L.set a x) ((a - 1) / 2))=false)->
  HpB bf (Gn bf x L a)/\(Gn bf x L a).Perm (L.set a x):=by
 intro a;induction a using Nat.strongRecOn with
 | ind a ih=>
  intro L x ha hD h1 h2;rw [Gn];by_cases h0:a=0
  ·rw [dif_pos h0];exact ⟨λk k1 k2=>h1 k k1 (by simpa using k2) (by omega),List.Perm.refl _⟩
  ·rw [dif_neg h0];have hp:(a - 1) / 2<L.length:=by omega
   have bz:a≠(a - 1) / 2:=by omega
   have ep:L.getD ((a - 1) / 2) 0=g L ((a - 1) / 2):=rfl;rw [ep];have ex:g (L.set a x) a=x:=by rw [rm ha,if_pos rfl]
   have ey:g (L.set a x) ((a - 1) / 2)=g L ((a - 1) / 2):=by rw [rm ha,if_neg (Ne.symm bz)]
   have sM:=R4 (x:=x) ha hp bz;have lM:(L.set a x).length=L.length:=by simp
   have gD:∀{k},k<L.length->D (g (L.set a x) k):=λhk=>hD _ (nV (by omega));by_cases hb:bf x (g L ((a - 1) / 2))=true
   ·rw [if_pos hb];generalize hpp:(a - 1) / 2=p at *
    have hps:=ru (z:=L.set a x) (i:=a) (j:=p) (by omega) (by omega);have We:∀k,g ((L.set a (g L p)).set p x) k=if k=a then g (L.set a x) p else if k=p then g (L.set a x) a else g (L.set a x) k:=λk=>by
     rw [<-sM,FD (by omega) (by omega)]
    have GX:=ih p (by omega) (L.set a (g L p)) x (by simpa using hp) (λy hy=>by
      rw [<-sM] at hy; exact hD y (hps.mem_iff.1 hy)) (λk k1 k2 k3=>?_) (λp1 k k1 k2 k3=>?_)
    ·refine ⟨GX.1,GX.2.trans ?_⟩;rw [<-sM]; exact hps
    ·have k2:k<L.length:=by simpa using k2
     rw [We,We];by_cases BO:k=a
     ·subst BO;rw [if_pos rfl,hpp,if_neg (Ne.symm bz),if_pos rfl];exact o.asym _ _ (gD ha) (gD hp) (by rw [ex,ey]; exact hb)
     ·rw [if_neg BO,if_neg k3];by_cases Tv:(k - 1) / 2=a
      ·rw [if_pos Tv]; exact h2 (by omega) k k1 k2 Tv
      ·rw [if_neg Tv];by_cases abN:(k - 1) / 2=p
       ·rw [if_pos abN];have:=h1 k k1 k2 BO;rw [abN] at this;refine o.trans _ _ _ (gD ha) (gD hp) (gD k2) ?_ this;exact o.asym _ _ (gD ha) (gD hp) (by rw [ex,ey]; exact hb)
       ·rw [if_neg abN]; exact h1 k k1 k2 BO
    ·have k2:k<L.length:=by simpa using k2
     rw [We,We,if_neg (show ¬(p - 1) / 2=a by omega),if_neg (show ¬(p - 1) / 2=p by omega)];have hpg:=h1 p p1 hp (by omega);by_cases BO:k=a
     ·rw [if_pos BO]; exact hpg
     ·rw [if_neg BO,if_neg (show ¬k=p by omega)];have:=h1 k k1 k2 BO;rw [k3] at this;exact o.trans _ _ _ (gD (by omega)) (gD hp) (gD k2) hpg this
   ·rw [if_neg hb];refine ⟨λk k1 k2=>?_,List.Perm.refl _⟩;have k2:k<L.length:=by simpa using k2
    by_cases BO:k=a
    ·subst BO;rw [ex,ey]; simpa using hb
    ·exact h1 k k1 k2 BO
theorem FE (o:Od bf D) {L:List Int} {a:Nat} (h:2*a+1<L.length) (hD:∀k,k<L.length->k≠a->D (g L k)) :
  ∀k,1<=k->k<L.length->(k - 1) / 2=a->bf (g L k) (g L (lower bf L a))=false:=by
 intro k k1 k2 k3;have e1:L.getD (2*a+2) 0=g L (2*a+2):=rfl;have e2:L.getD (2*a+1) 0=g L (2*a+1):=rfl;unfold lower;rw [e1,e2];rcases (show k=2*a+1\/k=2*a+2 by omega) with rfl | rfl
 ·split
  ·rename_i hc; exact o.asym _ _ (hD _ (by omega) (by omega)) (hD _ (by omega) (by omega)) hc.2
  ·exact o.irr (hD _ (by omega) (by omega))
 ·split
  ·exact o.irr (hD _ (by omega) (by omega))
  ·rename_i hc;cases hq:bf (g L (2*a+2)) (g L (2*a+1)) with
   | true=>exact absurd ⟨k2,hq⟩ hc
   | false=>rfl
theorem KI (o:Od bf D) (lo:Nat):∀(N a:Nat) (L:List Int) (x:Int),L.length - a=N->a<L.length->(∀y∈L.set a x,D y)->
  (∀k,1<=k->k<L.length->lo<=(k - 1) / 2->(k - 1) / 2≠a->bf (g (L.set a x) k) (g (L.set a x) ((k - 1) / 2))=false)->
  (a=lo\/(1<=a/\lo<=(a - 1) / 2/\∀k,1<=k->k<L.length->(k - 1) / 2=a->bf (g (L.set a x) k) (g (L.set a x) ((a - 1) / 2))=false))->lo<=a->
  (∀k,1<=k->k<L.length->lo<=(k - 1) / 2->bf (g (jW bf x L a) k) (g (jW bf x L a) ((k - 1) / 2))=false)/\(jW bf x L a).Perm (L.set a x):=by
 intro N;induction N using Nat.strongRecOn with
 | ind N ih=>
  intro a L x hN ha hD h1 h2 J9;rw [jW];have lM:(L.set a x).length=L.length:=by simp
  have gD:∀{k},k<L.length->D (g (L.set a x) k):=λhk=>hD _ (nV (by omega));have ex:g (L.set a x) a=x:=by rw [rm ha,if_pos rfl]
  by_cases aM:2*a+1<L.length
  ·rw [dif_pos aM];have gL:∀{k},k≠a->g (L.set a x) k=g L k:=λhk=>by rw [rm ha,if_neg hk]
   have agN:=zX bf L a;have hah:=FE o aM λk k1 k2=>by rw [<-gL k2]; exact gD k1
   have el:L.getD (lower bf L a) 0=g L (lower bf L a):=rfl;rw [el];generalize hm:lower bf L a=m at *
   have RB:m<L.length:=by omega
   have hma:a≠m:=by omega
   have hmp:(m - 1) / 2=a:=by omega
   by_cases hb:bf (g L m) x=true
   ·rw [if_pos hb];have sM:=R4 (x:=x) ha RB hma;have hps:=ru (z:=L.set a x) (i:=a) (j:=m) (by omega) (by omega);have We:∀k,g ((L.set a (g L m)).set m x) k=if k=a then g (L.set a x) m else if k=m then g (L.set a x) a else g (L.set a x) k:=λk=>by
     rw [<-sM,FD (by omega) (by omega)]
    have GX:=ih (L.length - m) (by omega) m (L.set a (g L m)) x (by simp) (by simpa using RB) (λy hy=>by
      rw [<-sM] at hy; exact hD y (hps.mem_iff.1 hy)) (λk k1 k2 k3 k4=>?_) (Or.inr ⟨by omega,by omega,λk k1 k2 k3=>?_⟩) (by omega)
    ·refine ⟨λk k1 k2 k3=>GX.1 k k1 (by simpa using k2) k3,GX.2.trans ?_⟩;rw [<-sM]; exact hps
    ·have k2:k<L.length:=by simpa using k2
     rw [We,We,if_neg k4];by_cases BO:(k - 1) / 2=a
     ·rw [if_pos BO,if_neg (show ¬k=a by omega)];by_cases hkm:k=m
      ·rw [if_pos hkm,ex,gL (Ne.symm hma)];exact o.asym _ _ (by rw [<-gL (Ne.symm hma)]; exact gD RB) (by rw [<-ex]; exact gD ha) hb
      ·rw [if_neg hkm,gL (by omega),gL (Ne.symm hma)];exact hah k k1 k2 BO
     ·rw [if_neg BO];by_cases hk:k=a
      ·rw [if_pos hk];subst hk;rcases h2 with h2 | ⟨a1,a2,a3⟩
       ·omega
       ·exact a3 m (by omega) RB hmp
      ·rw [if_neg hk,if_neg (show ¬k=m by omega)]; exact h1 k k1 k2 k3 BO
    ·have k2:k<L.length:=by simpa using k2
     rw [We,We,hmp,if_pos rfl,if_neg (show ¬k=a by omega),if_neg (show ¬k=m by omega)];have:=h1 k k1 k2 (by omega) (by omega);rwa [k3] at this
   ·rw [if_neg hb];refine ⟨λk k1 k2 k3=>?_,List.Perm.refl _⟩;by_cases BO:(k - 1) / 2=a
    ·rw [BO,ex,gL (by omega)];have lP:bf (g L m) x=false:=by simpa using hb
     refine o.trans _ _ _ (by rw [<-ex]; exact gD ha) (by rw [<-gL (Ne.symm hma)]; exact gD RB) (by rw [<-gL (show k≠a by omega)]; exact gD k2) lP (hah k k1 k2 BO)
    ·exact h1 k k1 k2 k3 BO
  ·rw [dif_neg aM];exact ⟨λk k1 k2 k3=>h1 k k1 k2 k3 (by omega),List.Perm.refl _⟩
theorem vp {L:List Int} {a:Nat} (ha:a<L.length):L.set a (g L a)=L:=by
 unfold g;rw [List.getD_eq_getElem?_getD,List.getElem?_eq_getElem ha];exact List.set_getElem_self ha
theorem FF (o:Od bf D):∀(k:Nat) (L:List Int),k<=L.length->(∀y∈L,D y)->(∀j,1<=j->j<L.length->k<=(j - 1) / 2->bf (g L j) (g L ((j - 1) / 2))=false)->
  HpB bf (kg bf k L)/\(kg bf k L).Perm L:=by
 intro k;induction k with
 | zero=>intro L _ _ h; exact ⟨λj j1 j2=>h j j1 j2 (Nat.zero_le _),List.Perm.refl _⟩
 | succ k ih=>
  intro L hk hD h;rw [kg];have ss:=vp (L:=L) (a:=k) (by omega);have e:L.getD k 0=g L k:=rfl;rw [e];have hd:=KI o k _ k L (g L k) rfl (by omega) (by rw [ss]; exact hD) (λj j1 j2 j3 j4=>by rw [ss]; exact h j j1 j2 (by omega)) (Or.inl rfl) (Nat.le_refl _);rw [ss] at hd;have hl:(jW bf (g L k) L k).length=L.length:=rU _ _ _ _ _ rfl;have hr:=ih (jW bf (g L k) L k) (by omega) (λy hy=>hD y (hd.2.mem_iff.1 hy)) (λj j1 j2 j3=>hd.1 j j1 (by omega) j3);exact ⟨hr.1,hr.2.trans hd.2⟩
theorem I6 (o:Od bf D) {L:List Int} (hD:∀y∈L,D y) (h:HpB bf L):∀k,k<L.length->bf (g L k) (g L 0)=false:=by
 intro k;induction k using Nat.strongRecOn with
 | ind k ih=>
  intro hk;by_cases h0:k=0
  ·subst h0; exact o.irr (hD _ (nV hk))
  ·exact o.trans _ _ _ (hD _ (nV (by omega))) (hD _ (nV (k:=(k - 1) / 2) (by omega))) (hD _ (nV hk)) (ih ((k - 1) / 2) (by omega) (by omega)) (h k (by omega) hk)
end
theorem jL {n:Nat} {sc:List Nat} (hn:∀x∈sc,x<=Fl.iK) (hl:sc.length=n) {v u:Int} (hv:1<=v/\v<=n) (hu:1<=u/\u<=n) :
  jK sc v u=true↔(sc.getD (u - 1).toNat 0<sc.getD (v - 1).toNat 0\/(sc.getD (u - 1).toNat 0=sc.getD (v - 1).toNat 0/\v<u)):=by
 have rd:∀{v:Int},1<=v/\v<=n->sc.getD (v - 1).toNat 0<=Fl.iK:=λh=>by
  refine hn _ ?_;rw [List.getD_eq_getElem?_getD,List.getElem?_eq_getElem (by omega)];exact List.getElem_mem _
 unfold jK;have ho:=Fl.ord (rd hv) (rd hu);have DQ:(FloatKind.format .f64).order (sc.getD (v - 1).toNat 0) (sc.getD (u - 1).toNat 0)=some (compare (sc.getD (v - 1).toNat 0) (sc.getD (u - 1).toNat 0)):=ho;rw [DQ];generalize sc.getD (v - 1).toNat 0=a;generalize sc.getD (u - 1).toNat 0=b;rcases Nat.lt_trichotomy a b with h | h | h
 ·rw [Nat.compare_eq_lt.2 h];have n1:¬b<a:=by omega
  have n2:¬b=a:=by omega
  simp [n1,n2]
 ·subst h;rw [Nat.compare_eq_eq.2 rfl];simp
 ·rw [Nat.compare_eq_gt.2 h];simp [h]
theorem rz {n:Nat} {sc:List Nat} (hn:∀x∈sc,x<=Fl.iK) (hl:sc.length=n):Od (jK sc) (λv=>1<=v/\v<=n):=by
 have no:∀{b:Bool} {P:Prop},(b=true↔P)->(b=false↔¬P):=λ{b P} h=>by
  constructor
  ·intro hb hp; rw [h.2 hp] at hb; cases hb
  ·intro hp;cases hb:b with
   | true=>exact absurd (h.1 hb) hp
   | false=>rfl
 refine ⟨λx y hx hy h=>?_,λx y z hx hy hz h1 h2=>?_⟩
 ·rw [no (jL hn hl hy hx)];have:=(jL hn hl hx hy).1 h;omega
 ·rw [no (jL hn hl hz hx)];have h1:=(no (jL hn hl hy hx)).1 h1;have h2:=(no (jL hn hl hz hy)).1 h2;omega
theorem R5 {n:Nat} {sc:List Nat} (hn:∀x∈sc,x<=Fl.iK) (hl:sc.length=n) {v u:Int} (hv:1<=v/\v<=n) (hu:1<=u/\u<=n) (h1:jK sc v u=false) (h2:jK sc u v=false):v=u:=by
 apply Classical.byContradiction;intro bz;have n1:¬_:=λh=>by rw [(jL hn hl hv hu).2 h] at h1; cases h1
 have n2:¬_:=λh=>by rw [(jL hn hl hu hv).2 h] at h2; cases h2
 omega
end eR
namespace eR
open Go Vc T
open N_ (g swp FD C4 ru mY nV rm)
def wJ (x y:Nat):Nat:=(Fl.d64.add x y).getD 0
def wK (x:Nat):Nat:=(Fl.d64.mul x small).getD 0
def fdiv (x y:Nat):Nat:=(Fl.d64.div x y).getD 0
def gY (sc:List Nat) (step:Nat) (v:Int):List Nat×Nat:=
 if A2 (wJ (sc.getD (v - 1).toNat 0) step) then ((sc.set (v - 1).toNat (wJ (sc.getD (v - 1).toNat 0) step)).map wK,wK step) else (sc.set (v - 1).toNat (wJ (sc.getD (v - 1).toNat 0) step),step)
def iD (sc:List Nat) (step aK:Nat):List Nat×Nat:=if A2 (fdiv step aK) then (sc.map wK,wK (fdiv step aK)) else (sc,fdiv step aK)
theorem I7:∃m e,Fl.d64.read small=.number false m e/\m≠0:=by
 refine ⟨_,_,Fl.h_ (by decide),?_⟩;decide +kernel
theorem rV {x:Nat} (h:x<=Fl.iK):Fl.d64.mul x small=some (wK x)/\wK x<=Fl.iK:=by
 obtain ⟨m,e,hr,hm⟩:=I7;obtain ⟨z,hz,hle⟩:=Fl.abL h hr hm;unfold wK;rw [hz];exact ⟨rfl,hle⟩
theorem KJ {x y:Nat} (hx:x<=Fl.iK) (hy:y<=Fl.iK):Fl.d64.add x y=some (wJ x y)/\wJ x y<=Fl.iK/\x<=wJ x y:=by
 obtain ⟨z,hz,h1,h2⟩:=Fl.abK hx hy;unfold wJ;rw [hz];exact ⟨rfl,h1,h2⟩
theorem KK {x d:Nat} (hx:x<=Fl.iK) (hd:∃m e,Fl.d64.read d=.number false m e/\m≠0):Fl.d64.div x d=some (fdiv x d)/\fdiv x d<=Fl.iK:=by
 obtain ⟨m,e,hr,hm⟩:=hd;obtain ⟨z,hz,h1⟩:=Fl.abM hx hr hm;unfold fdiv;rw [hz];exact ⟨rfl,h1⟩
structure Wf (n:Nat) (sc:List Nat) (step aK:Nat) (wb:List Bool):Prop where
 Am:sc.length=n
 KL:wb.length=n
 small:n<=1048576
 nn:∀x∈sc,x<=Fl.iK
 st:step<=Fl.iK
 dec:∃m e,Fl.d64.read aK=.number false m e/\m≠0
theorem FG {sc:List Nat} {k:Nat} (h:k<sc.length):sc.getD k 0∈sc:=by
 rw [List.getD_eq_getElem?_getD,List.getElem?_eq_getElem h]; exact List.getElem_mem h
theorem C5 {sc:List Nat} (h:∀x∈sc,x<=Fl.iK) {k y:Nat} (hy:y<=Fl.iK):∀x∈sc.set k y,x<=Fl.iK:=λx hx=>by
 rcases List.mem_or_eq_of_mem_set hx with hx | hx
 ·exact h x hx
 ·rw [hx]; exact hy
theorem R6 {sc:List Nat} (h:∀x∈sc,x<=Fl.iK):∀x∈sc.map wK,x<=Fl.iK:=λx hx=>by
 obtain ⟨y,hy,rfl⟩:=List.mem_map.1 hx;exact (rV (h y hy)).2
theorem z_:∀{sc:List Nat},(∀x∈sc,x<=Fl.iK)->scaled sc (sc.map wK):=by
 intro sc;induction sc with
 | nil=>intro _; trivial
 | cons x sc ih=>intro h; exact ⟨(rV (h x (by simp))).1,ih λy hy=>h y (by simp [hy])⟩
section
variable {n:Nat} {sc:List Nat} {step aK:Nat} {wb:List Bool}
theorem Wf.bump (h:Wf n sc step aK wb) {v:Int} (hv:1<=v/\v<=n):Wf n (gY sc step v).1 (gY sc step v).2 aK wb:=by
 have hk:(v - 1).toNat<sc.length:=by have:=h.Am; omega
 have hs:=KJ (h.nn _ (FG hk)) h.st;unfold gY;split
 ·exact ⟨by simpa using h.Am,h.KL,h.small,R6 (C5 h.nn hs.2.1),(rV h.st).2,h.dec⟩
 ·exact ⟨by simpa using h.Am,h.KL,h.small,C5 h.nn hs.2.1,h.st,h.dec⟩
theorem Wf.Wg (h:Wf n sc step aK wb):Wf n (iD sc step aK).1 (iD sc step aK).2 aK wb:=by
 have hs:=KK h.st h.dec;unfold iD;split
 ·exact ⟨by simpa using h.Am,h.KL,h.small,R6 h.nn,(rV hs.2).2,h.dec⟩
 ·exact ⟨h.Am,h.KL,h.small,h.nn,hs.2,h.dec⟩
theorem Wf.set (h:Wf n sc step aK wb) (k:Nat) (b:Bool):Wf n sc step aK (wb.set k b):=⟨h.Am,by simpa using h.KL,h.small,h.nn,h.st,h.dec⟩
end
structure HI where
 h:Nat
 sb:Nat
 ib:Nat
 pb:Nat
def HI.F (Q:HI) (i:Nat):Prop:=HF Q.h Q.sb Q.ib Q.pb i
def gZ (wb:List Bool) (v:Int):Bool:=wb.getD (v - 1).toNat false
structure PR (n:Nat) (w:World) (Q:HI) (sc:List Nat) (step aK:Nat) (wb:List Bool) (it rest pl:List Int):Prop where
 rep:nk w Q.h Q.sb Q.ib Q.pb sc step aK it rest pl
 fc:FC n it pl
 hp:HpB (jK sc) it
 cap:it.length+rest.length=n
 mem:∀v:Int,1<=v->v<=n->(v∈it↔gZ wb v=true)
 wf:Wf n sc step aK wb
def PH (n:Nat) (w:World) (Q:HI) (sc:List Nat) (step aK:Nat) (wb:List Bool):Prop:=∃it rest pl,PR n w Q sc step aK wb it rest pl
theorem FC.Gp {n:Nat} {L pl:List Int} (h:FC n L pl):∀y∈L,1<=y/\y<=n:=λy hy=>by
 obtain ⟨i,hi⟩:=List.mem_iff_getElem?.1 hy;have:=h.jr i y hi;exact ⟨this.1,this.2.1⟩
theorem nk.ax {w w':World} {h sb ib pb:Nat} {sc:List Nat} {step aK:Nat} {it rest pl:List Int} {S:Nat->Prop} (hR:nk w h sb ib pb sc step aK it rest pl) (hk:af S w w') (hn:∀i,HF h sb ib pb i->¬S i):nk w' h sb ib pb sc step aK it rest pl:=
 ⟨hR.obj.ax hk (hn _ (Or.inl rfl)),hR.gP.ax hk (hn _ (Or.inr (Or.inl rfl))),hR.items.ax hk (hn _ (Or.inr (Or.inr (Or.inl rfl)))),hR.jE.ax hk (hn _ (Or.inr (Or.inr (Or.inr rfl)))),hR.len,hR.hs,hR.hi,hR.hp,hR.si,hR.sp,hR.ip⟩
theorem PH.ax {n:Nat} {w w':World} {Q:HI} {sc:List Nat} {step aK:Nat} {wb:List Bool} {S:Nat->Prop} (h:PH n w Q sc step aK wb) (hk:af S w w') (hn:∀i,Q.F i->¬S i):PH n w' Q sc step aK wb:=by
 obtain ⟨it,rest,pl,r⟩:=h;exact ⟨it,rest,pl,r.rep.ax hk hn,r.fc,r.hp,r.cap,r.mem,r.wf⟩
theorem PH.aa {n:Nat} {w w':World} {Q:HI} {sc:List Nat} {step aK:Nat} {wb:List Bool} (h:PH n w Q sc step aK wb) (hk:af aq w w'):PH n w' Q sc step aK wb:=h.ax hk λ_ _ h=>h
theorem PH.lt {n:Nat} {w:World} {Q:HI} {sc:List Nat} {step aK:Nat} {wb:List Bool} (h:PH n w Q sc step aK wb):∀i,Q.F i->i<w.heap.size:=λi hi=>by
 obtain ⟨it,rest,pl,r⟩:=h;rcases hi with rfl | rfl | rfl | rfl
 ·exact r.rep.obj.lt
 ·exact r.rep.gP.lt
 ·exact r.rep.items.lt
 ·exact r.rep.jE.lt
theorem PH.wf {n:Nat} {w:World} {Q:HI} {sc:List Nat} {step aK:Nat} {wb:List Bool} (h:PH n w Q sc step aK wb):Wf n sc step aK wb:=by
 obtain ⟨it,rest,pl,r⟩:=h;exact r.wf
section
variable {n:Nat} {w:World} {Q:HI} {sc:List Nat} {step aK:Nat} {wb:List Bool} {it rest pl:List Int}
theorem PR.il (r:PR n w Q sc step aK wb it rest pl):it.length<=1048576:=by have:=r.cap; have:=r.wf.small; omega
theorem PR.od (r:PR n w Q sc step aK wb it rest pl):Od (jK sc) (λv=>1<=v/\v<=n):=rz r.wf.nn r.wf.Am
theorem Wh {i:Nat} {v:Int} (h:it[i]?=some v):g it i=v:=by unfold g; rw [List.getD_eq_getElem?_getD,h]; rfl
theorem M6 (r:PR n w Q sc step aK wb it rest pl) {v:Int} (hv:1<=v/\v<=n) {y:Nat} (hy:y<=Fl.iK) (bL:sc.getD (v - 1).toNat 0<=y) :
  HpB (jK (sc.set (v - 1).toNat y)) (mX (sc.set (v - 1).toNat y) it pl v)/\(mX (sc.set (v - 1).toNat y) it pl v).Perm it:=by
 have hk:(v - 1).toNat<sc.length:=by have:=r.wf.Am; omega
 have uc:(sc.set (v - 1).toNat y).length=n:=by simpa using r.wf.Am
 have nn1:=C5 r.wf.nn hy (k:=(v - 1).toNat);have Gp:=r.fc.Gp
 -- gP acC
 have sg:∀u:Int,1<=u/\u<=n->(sc.set (v - 1).toNat y).getD (u - 1).toNat 0=if u=v then y else sc.getD (u - 1).toNat 0:=λu hu=>by
  rw [List.getD_eq_getElem?_getD,List.getElem?_set];by_cases huv:u=v
  ·rw [if_pos (by rw [huv]),if_pos hk,if_pos huv]; rfl
  ·rw [if_neg (by omega),if_neg huv,<-List.getD_eq_getElem?_getD]
 have same:∀{a b:Int},(1<=a/\a<=n)->(1<=b/\b<=n)->a≠v->jK sc a b=false->jK (sc.set (v - 1).toNat y) a b=false:=λ{a b} ha hb hav h=>by
  cases hq:jK (sc.set (v - 1).toNat y) a b with
  | false=>rfl
  | true=>
   have h1:=(jL nn1 uc ha hb).1 hq;rw [sg a ha,sg b hb,if_neg hav] at h1;have:jK sc a b=true:=(jL r.wf.nn r.wf.Am ha hb).2 (by
    by_cases hbv:b=v
    ·rw [if_pos hbv] at h1; rw [hbv]; rw [hbv] at h1; omega
    ·rw [if_neg hbv] at h1; exact h1)
   rw [h] at this; cases this
 have gr:∀{k:Nat},k<it.length->1<=g it k/\g it k<=n:=λhk=>Gp _ (nV hk);have o1:=rz nn1 uc;unfold mX;by_cases hp:0<=pl.getD (v - 1).toNat (-1)
 ·rw [if_pos hp];have nB:∃i:Nat,it[i]?=some v:=Classical.byContradiction λhn=>by
   have:=r.fc.out v hv.1 hv.2 λi hi=>hn ⟨i,hi⟩;rw [List.getD_eq_getElem?_getD,this] at hp;simp at hp
  obtain ⟨i,hi⟩:=nB;have Lq:=(r.fc.jr i v hi).2.2;have ei:pl.getD (v - 1).toNat (-1)=(i:Int):=by rw [List.getD_eq_getElem?_getD,Lq]; rfl
  have aM:=(List.getElem?_eq_some_iff.1 hi).1;rw [ei,Int.toNat_natCast];have eg:it.getD i 0=g it i:=rfl;have egv:g it i=v:=Wh hi;rw [eg];have ss:=vp (L:=it) aM;have ne:∀{k:Nat},k<it.length->k≠i->g it k≠v:=λh1 h2 h3=>h2 (r.fc.inj (by rw [mY h1,h3]) hi);have hu:=Yy o1 i it (g it i) aM (by rw [ss]; exact Gp) (λk k1 k2 k3=>by
    rw [ss]; exact same (gr k2) (gr (by omega)) (ne k2 k3) (r.hp k k1 k2)) (λi1 k k1 k2 k3=>by
    rw [ss];have h1:=r.hp k k1 k2;rw [k3] at h1;have h2:=r.hp i i1 aM;exact same (gr k2) (gr (by omega)) (ne k2 (by omega)) (r.od.trans _ _ _ (gr (by omega)) (gr aM) (gr k2) h2 h1))
  rw [ss] at hu;exact hu
 ·rw [if_neg hp];refine ⟨λk k1 k2=>same (gr k2) (gr (by omega)) (λGh=>hp ?_) (r.hp k k1 k2),List.Perm.refl _⟩;have h1:=(r.fc.jr k _ (mY k2)).2.2;rw [Gh] at h1;rw [List.getD_eq_getElem?_getD,h1];simp
theorem PR.yA (r:PR n w Q sc step aK wb it rest pl) {w':World} {Fz:List Nat} {ef:Nat} {I4:List Int} (hH:eR w Q.h Q.sb Q.ib Q.pb Fz ef aK rest I4 w') (hp:HpB (jK Fz) I4) (nP:I4.Perm it) (hw:Wf n Fz ef aK wb) :
  af Q.F w w'/\PH n w' Q Fz ef aK wb:=by
 obtain ⟨k,pl',hR,hF⟩:=hH;refine ⟨k,I4,rest,pl',hR,by rw [<-hw.Am]; exact hF,hp,by rw [nP.length_eq]; exact r.cap,λv v1 v2=>?_,hw⟩;rw [nP.mem_iff]; exact r.mem v v1 v2
theorem PH.bump (h:PH n w Q sc step aK wb) {v:Int} (hv:1<=v/\v<=n) :
  Calls Tryz.prog 107 #[.pointer (some ⟨Q.h,0,none⟩),I v] w λe w'=>e=.returned (I 0)/\af Q.F w w'/\PH n w' Q (gY sc step v).1 (gY sc step v).2 aK wb:=by
 obtain ⟨it,rest,pl,r⟩:=h;have hk:(v - 1).toNat<sc.length:=by have:=r.wf.Am; omega
 have hs:=KJ (r.wf.nn _ (FG hk)) r.wf.st;have hb:=M6 r hv hs.2.1 hs.2.2;have hW:=r.wf.bump hv;have hn:=r.wf.small;have hl:=r.wf.Am;cases ho:A2 (wJ (sc.getD (v - 1).toNat 0) step) with
 | false=>
  have e1:gY sc step v=(sc.set (v - 1).toNat (wJ (sc.getD (v - 1).toNat 0) step),step):=by unfold gY; rw [ho]; rfl
  rw [e1] at hW ⊢;refine (RX (y:=wJ (sc.getD (v - 1).toNat 0) step) r.rep (by omega) r.il (by rw [hl]; exact r.fc) hv.1 (by omega) hs.1 (λ_=>⟨rfl,rfl,rfl⟩) (λh=>by rw [ho] at h; cases h)).mono λe w' ⟨he,hH⟩=>⟨he,?_⟩
  exact r.yA hH hb.1 hb.2 hW
 | true=>
  have e1:gY sc step v=((sc.set (v - 1).toNat (wJ (sc.getD (v - 1).toNat 0) step)).map wK,wK step):=by unfold gY; rw [ho]; rfl
  rw [e1] at hW ⊢;refine (RX (y:=wJ (sc.getD (v - 1).toNat 0) step) r.rep (by omega) r.il (by rw [hl]; exact r.fc) hv.1 (by omega) hs.1 (λh=>by rw [ho] at h; cases h) (λ_=>⟨z_ (C5 r.wf.nn hs.2.1),(rV r.wf.st).1,rfl⟩)).mono λe w' ⟨he,hH⟩=>⟨he,?_⟩
  have pM:=hb.2.length_eq;have ha:=FF (rz hW.nn hW.Am) (it.length / 2) (mX (sc.set (v - 1).toNat (wJ (sc.getD (v - 1).toNat 0) step)) it pl v) (by rw [pM]; omega) (λy hy=>r.fc.Gp y (hb.2.mem_iff.1 hy)) (λj j1 j2 j3=>by rw [pM] at j2; omega);exact r.yA hH ha.1 (ha.2.trans hb.2) hW
theorem PH.Wg (h:PH n w Q sc step aK wb) :
  Calls Tryz.prog 108 #[.pointer (some ⟨Q.h,0,none⟩)] w λe w'=>e=.returned (.tuple #[])/\af Q.F w w'/\PH n w' Q (iD sc step aK).1 (iD sc step aK).2 aK wb:=by
 obtain ⟨it,rest,pl,r⟩:=h;have hs:=KK r.wf.st r.wf.dec;have hW:=r.wf.Wg;have hn:=r.wf.small;have hl:=r.wf.Am;cases ho:A2 (fdiv step aK) with
 | false=>
  have e1:iD sc step aK=(sc,fdiv step aK):=by unfold iD; rw [ho]; rfl
  rw [e1] at hW ⊢;refine (RY (y:=fdiv step aK) r.rep (by omega) r.il (by rw [hl]; exact r.fc) hs.1 (λ_=>⟨rfl,rfl,rfl⟩) (λh=>by rw [ho] at h; cases h)).mono λe w' ⟨he,hH⟩=>⟨he,?_⟩
  exact r.yA hH r.hp (List.Perm.refl _) hW
 | true=>
  have e1:iD sc step aK=(sc.map wK,wK (fdiv step aK)):=by unfold iD; rw [ho]; rfl
  rw [e1] at hW ⊢;refine (RY (y:=fdiv step aK) r.rep (by omega) r.il (by rw [hl]; exact r.fc) hs.1 (λh=>by rw [ho] at h; cases h) (λ_=>⟨z_ r.wf.nn,(rV hs.2).1,rfl⟩)).mono λe w' ⟨he,hH⟩=>⟨he,?_⟩
  have ha:=FF (rz hW.nn hW.Am) (it.length / 2) it (by omega) r.fc.Gp (λj j1 j2 j3=>by omega);exact r.yA hH ha.1 ha.2 hW
def rA (n:Nat) (wb:List Bool) (v:Int):Bool:=decide (1<=v)&&decide (v<=n)&&gZ wb v
theorem PR.place (r:PR n w Q sc step aK wb it rest pl) {v:Int} (hv:1<=v/\v<=n):∃x,pl[(v - 1).toNat]?=some x/\(0<=x↔gZ wb v=true):=by
 by_cases nB:∃i:Nat,it[i]?=some v
 ·obtain ⟨i,hi⟩:=nB;exact ⟨i,(r.fc.jr i v hi).2.2,⟨λ_=>(r.mem v hv.1 hv.2).1 (List.mem_of_getElem? hi),λ_=>by omega⟩⟩
 ·refine ⟨-1,r.fc.out v hv.1 hv.2 λi hi=>nB ⟨i,hi⟩,⟨λh=>by omega,λh=>?_⟩⟩;obtain ⟨i,hi⟩:=List.mem_iff_getElem?.1 ((r.mem v hv.1 hv.2).2 h);exact absurd ⟨i,hi⟩ nB
structure abO (n:Nat) (sc:List Nat) (wb:List Bool) (R:List Int):Prop where
 nodup:R.Nodup
 mem:∀v:Int,v∈R↔rA n wb v=true
 sorted:R.Pairwise λx y=>jK sc y x=false
theorem FC.nodup {n:Nat} {L pl:List Int} (h:FC n L pl):L.Nodup:=by
 rw [List.nodup_iff_pairwise_ne,List.pairwise_iff_getElem];intro i j hi hj oa he;have:=h.inj (List.getElem?_eq_getElem hi) (by rw [List.getElem?_eq_getElem hj,<-he]);omega
theorem PR.Wj (r:PR n w Q sc step aK wb it rest pl) (v:Int):v∈it↔rA n wb v=true:=by
 unfold rA;constructor
 ·intro h;have:=r.fc.Gp v h;rw [(r.mem v this.1 this.2).1 h];simp [this]
 ·intro h;simp only [Bool.and_eq_true,decide_eq_true_eq] at h;exact (r.mem v h.1.1 h.1.2).2 h.2
theorem abO.unique {R R':List Int} (hw:Wf n sc step aK wb) (h:abO n sc wb R) (h':abO n sc wb R'):R=R':=by
 have rg:∀{v:Int},rA n wb v=true->1<=v/\v<=n:=λh=>by
  unfold rA at h;simp only [Bool.and_eq_true,decide_eq_true_eq] at h;exact h.1
 refine List.Perm.eq_of_pairwise (le:=λx y=>jK sc y x=false) (λa b ha hb h1 h2=>?_) h.sorted h'.sorted ?_
 ·exact R5 hw.nn hw.Am (rg ((h.mem a).1 ha)) (rg ((h'.mem b).1 hb)) h2 h1
 ·rw [List.perm_ext_iff_of_nodup h.nodup h'.nodup];intro a;rw [h.mem,h'.mem]
end
end eR
namespace eR
open Go Vc T
open N_ (g swp FD C4 ru mY nV rm)
theorem abP {w:World} {b bb c:Nat} {n:Nat} {cs:List Value} {v:Value} {K:Option Addr->Nat->Nat->World->Prop} (hB:b_ w b cs 3) (bH:b_ w bb [v] 3) (hn:n<c) (hc:cs.length=c) (ho:v.oneCell'=true)
  (hk:∀w',b_ w' b (cs.set n v) 3->af (One b) w w'->K (some ⟨b,0,none⟩) (n+1) c w') :
  ∃(p':Option Addr) (n' c':Nat),∃w':World,(Builtin.append_ #[59,59] 59 #[.slice (some ⟨b,0,none⟩) n c,.slice (some ⟨bb,0,none⟩) 1 1]).run Tryz.prog w=.ok (.slice p' n' c') w'/\K p' n' c' w':=by
 have Ax:(Tryz.prog.info? 3).map (λi=>(i.zero,i.size,i.bytes))=some (some (I 0),1,8):=by kernel_rfl
 obtain ⟨i,hi,cW⟩:=Option.map_eq_some_iff.1 Ax;simp only [Prod.mk.injEq] at cW;obtain ⟨hz,vP,hby⟩:=cW;have kZ:∀j u,([v]:List Value)[j]?=some u->w.cell? ((⟨bb,0,none⟩:Addr).add j)=some u:=λj u hu=>by
  rw [ag,Nat.zero_add,bH.cell]; exact hu
 have hr:=run_append_room (P:=Tryz.prog) w 59 59 3 i Tryz.underlying59 hi b n c cs.toArray hB ⟨bb,0,none⟩ 1 1 [v] (by rw [vP]; rfl) kZ (λu hu=>by simp only [List.mem_singleton] at hu; subst hu; exact ho) (by omega) (by rw [vP]; simp; omega);refine ⟨_,_,_,_,hr,hk _ ?_ ⟨rfl,rfl,rfl,by simp,λk _ gq=>setRow_other w b k _ (λe=>gq e)⟩⟩;have e:cs.set n v=cs.take (n*i.size)++[v]++cs.drop (n*i.size+[v].length):=by
  rw [vP,Nat.mul_one,List.length_singleton,List.set_eq_take_append_cons_drop,if_pos (by omega)];simp
 rw [e];exact setRow_heap w b cs.toArray _ 3 _ hB
theorem mC:∀(n:Nat) (l:List Int),l.Nodup->(∀x∈l,1<=x/\x<=n)->l.length<=n:=by
 intro n;induction n with
 | zero=>
  intro l _ h;cases l with
  | nil=>simp
  | cons x l=>have:=h x (by simp); omega
 | succ n ih=>
  intro l hd h;by_cases hm:((n+1:Nat):Int)∈l
  ·have h1:=List.length_erase_of_mem hm;have h2:=ih (l.erase ((n+1:Nat):Int)) (hd.erase _) λx hx=>by
    have jG:=(hd.mem_erase_iff).1 hx;have:=h x jG.2;have:=jG.1;omega
   have:0<l.length:=List.length_pos_of_mem hm;omega
  ·have:=ih l hd λx hx=>by
    have:=h x hx;have:x≠((n+1:Nat):Int):=λe=>hm (e ▸ hx);omega
   omega
section
variable {n:Nat} {w:World} {Q:HI} {sc:List Nat} {step aK:Nat} {wb:List Bool} {it rest pl:List Int}
theorem jY {v u:Int} (hv:1<=v/\v<=n) (hu:1<=u/\u<=n) (hl:wb.length=n) (b:Bool):gZ (wb.set (v - 1).toNat b) u=if u=v then b else gZ wb u:=by
 unfold gZ;rw [List.getD_eq_getElem?_getD,List.getElem?_set];by_cases h:u=v
 ·subst h;rw [if_pos rfl,if_pos (by omega),if_pos rfl]; rfl
 ·rw [if_neg (by omega),if_neg h,<-List.getD_eq_getElem?_getD]
def pF (n:Nat) (wb:List Bool):Prop:=∀v:Int,rA n wb v=false
def jv (n:Nat) (sc:List Nat) (wb:List Bool) (v:Int):Prop:=rA n wb v=true/\∀u,rA n wb u=true->jK sc u v=false
theorem jv.unique (hw:Wf n sc step aK wb) {v u:Int} (h:jv n sc wb v) (h':jv n sc wb u):v=u:=by
 have rg:∀{v:Int},rA n wb v=true->1<=v/\v<=n:=λh=>by
  unfold rA at h;simp only [Bool.and_eq_true,decide_eq_true_eq] at h;exact h.1
 exact R5 hw.nn hw.Am (rg h.1) (rg h'.1) (h'.2 v h.1) (h.2 u h'.1)
def FH (n:Nat) (w:World) (Q:HI) (sc:List Nat) (step aK:Nat) (wb:List Bool) (v:Value) (w':World):Prop:=
 (pF n wb/\v=.tuple #[I 0,.bool false]/\w'=w)\/∃x:Int,jv n sc wb x/\v=.tuple #[I x,.bool true]/\af Q.F w w'/\PH n w' Q sc step aK (wb.set (x - 1).toNat false)
theorem abQ (r:PR n w Q sc step aK wb it rest pl) (bz:0<it.length) :
  Calls Tryz.prog 128 #[.pointer (some ⟨Q.h,3,none⟩)] w λe w'=>e=.returned (I (g it 0))/\af Q.F w w'/\PH n w' Q sc step aK (wb.set (g it 0 - 1).toNat false):=by
 let R:World->Prop:=λw'=>af Q.F w w'/\PH n w' Q sc step aK (wb.set (g it 0 - 1).toNat false);refine (IZ (some ⟨Q.h,3,none⟩) w (λv w'=>v=I (g it 0)/\R w') ?_).mono λe w' ⟨v,he,hv,hk⟩=>⟨by rw [he,hv],hk⟩
 unfold agD;have sx:=r.il;have TK:=r.wf.small;have hR:=r.rep;have WJ:=hR.len;have M9:=r.wf.Am;have g0:=r.fc.Gp _ (nV (k:=0) bz);simp only [ag,Nat.add_zero,Nat.reduceAdd,Nat.zero_add];refine ay (au (hR.obj.cell 3) (cu (by omega) (by omega) ?_));refine ah (x:=g it 0) (hR.item bz) ?_;have e1:IntKind.wrap .i64 (g it 0 - 1)=g it 0 - 1:=by rw [IntKind.wrap_i64]; omega
 rw [e1];refine ay (au (hR.obj.cell 4) (cu (by omega) (by omega) ?_));simp only [ag,Nat.add_zero,Nat.reduceAdd,Nat.zero_add];refine aG hR.jE (by rw [List.length_map]; omega) rfl λw1 h1 k1 _=>?_;rw [<-List.map_set] at h1;have rL:nk w1 Q.h Q.sb Q.ib Q.pb sc step aK it rest (pl.set (g it 0 - 1).toNat (-1)):=by
  refine ⟨?_,hR.gP.aJ k1 hR.sp,hR.items.aJ k1 hR.ip,h1,by simpa using WJ,hR.hs,hR.hi,hR.hp,hR.si,hR.sp,hR.ip⟩;have:=hR.obj.aJ k1 hR.hp;simpa using this
 have k01:af Q.F w w1:=k1.mono λi _ (h:i=Q.pb)=>by rw [h]; simp [HI.F,HF]
 obtain ⟨m,hm⟩:∃m,it.length=m+1:=⟨it.length - 1,by omega⟩
 have dm:=rL.drew;have kd:=k01.drew;generalize w1.drew=w2 at *
 have e2:IntKind.wrap .i64 ((it.length:Int) - 1)=(m:Int):=by rw [IntKind.wrap_i64]; omega
 refine ay ?_;simp only [ag,Nat.add_zero,Nat.reduceAdd,Nat.zero_add];refine au (dm.obj.cell 3) (ay ?_);simp only [ag,Nat.add_zero,Nat.reduceAdd,Nat.zero_add];refine au (dm.obj.cell 3) ?_;rw [e2];refine cu (by omega) (by omega) (ah (x:=g it m) (by rw [Int.toNat_natCast]; exact dm.item (by omega)) ?_);have iM:=dm.drew;have A3:=kd.drew;generalize w2.drew=w3 at *
 refine ay ?_;simp only [ag,Nat.add_zero,Nat.reduceAdd,Nat.zero_add];refine au (iM.obj.cell 3) (ay ?_);simp only [ag,Nat.add_zero,Nat.reduceAdd,Nat.zero_add];refine au (iM.obj.cell 3) ?_;rw [e2];refine ⟨by omega,by omega,ay ?_⟩;simp only [ag,Nat.add_zero,Nat.reduceAdd,Nat.zero_add];have esl:jZ (some ⟨Q.ib,0,none⟩) (it.length+rest.length) 0 1=some ⟨Q.ib,0,none⟩:=by
  unfold jZ; split
  ·rfl
  ·simp [Addr.add]
 rw [esl,Int.toNat_natCast,Nat.sub_zero,Nat.sub_zero];refine aG iM.obj (by simp) rfl λw4 h4 k4 _=>?_
 -- yf aiO list
 have amj:it.take m++(it.drop m++rest)=it++rest:=by rw [<-List.append_assoc,List.take_append_drop]
 have abR:(it.take m).length=m:=by simp; omega
 have uR:nk w4 Q.h Q.sb Q.ib Q.pb sc step aK (it.take m) (it.drop m++rest) (pl.set (g it 0 - 1).toNat (-1)):=by
  refine ⟨?_,iM.gP.aJ k4 (Ne.symm hR.hs),?_,iM.jE.aJ k4 (Ne.symm hR.hp),by simpa using WJ,hR.hs,hR.hi,hR.hp,hR.si,hR.sp,hR.ip⟩
  ·have e3:(it.drop m++rest).length+m=it.length+rest.length:=by simp; omega
   have e4:m+(it.drop m++rest).length=it.length+rest.length:=by omega
   rw [abR,e4];exact h4
  ·rw [amj];exact iM.items.aJ k4 (Ne.symm hR.hi)
 have uX:af Q.F w w4:=A3.thenS k4 (by simp [HI.F,HF]);have CN:(it.take m).length+(it.drop m++rest).length=n:=by have:=r.cap; rw [abR]; simp; omega
 have hwb:=r.wf.KL
 -- who is within
 have gi:∀{k:Nat},k<it.length->∀{v:Int},it[k]?=some v↔g it k=v:=λhk=>by
  intro v;rw [mY hk];exact ⟨λh=>by injection h,λh=>by rw [h]⟩
 have inj:∀{a b:Nat},a<it.length->b<it.length->g it a=g it b->a=b:=λha hb h=>r.fc.inj (mY ha) (by rw [h]; exact mY hb);have plx:∀v:Int,1<=v->v<=n->v≠g it 0->(pl.set (g it 0 - 1).toNat (-1))[(v - 1).toNat]?=pl[(v - 1).toNat]?:=λv v1 v2 hv=>by
  rw [List.getElem?_set,if_neg (by omega)]
 have agO:(pl.set (g it 0 - 1).toNat (-1))[(g it 0 - 1).toNat]?=some (-1):=by
  rw [List.getElem?_set,if_pos rfl,if_pos (by omega)]
 refine ⟨λ_ w5=>R w5,?_,λ_ w5 h=>⟨by first | rfl | trivial,h⟩⟩;refine ay ?_;simp only [ag,Nat.add_zero,Nat.reduceAdd,Nat.zero_add];refine au (h4.cell 3) ?_;refine aF (λBM=>?_) λhle=>?_
 ·have VG:0<m:=by simp at BM; omega
  have gm:=r.fc.Gp _ (nV (k:=m) (by omega));refine az BK (uR.lay (by omega) (a:=0) (by omega) gm.1 (by omega)) λe w5 ⟨he,k5,Of⟩=>⟨he,?_⟩
  have hf5:FC sc.length ((it.take m).set 0 (g it m)) ((pl.set (g it 0 - 1).toNat (-1)).set (g it m - 1).toNat ((0:Nat):Int)):=by
   rw [M9];have gL:∀i v,((it.take m).set 0 (g it m))[i]?=some v->(i=0/\v=g it m)\/(0<i/\i<m/\it[i]?=some v):=λi v h=>by
    rw [List.getElem?_set] at h;by_cases hi:0=i
    ·subst hi;rw [if_pos rfl,if_pos (by omega)] at h;injection h with h;exact Or.inl ⟨rfl,h.symm⟩
    ·rw [if_neg hi,List.getElem?_take] at h;split at h
     ·exact Or.inr ⟨by omega,by assumption,h⟩
     ·cases h
   have gL2:∀i,0<i->i<m->((it.take m).set 0 (g it m))[i]?=it[i]?:=λi h1 h2=>by
    rw [List.getElem?_set,if_neg (by omega),List.getElem?_take,if_pos h2]
   have pm:∀v:Int,1<=v->v<=n->((pl.set (g it 0 - 1).toNat (-1)).set (g it m - 1).toNat ((0:Nat):Int))[(v - 1).toNat]?=if v=g it m then some 0 else (pl.set (g it 0 - 1).toNat (-1))[(v - 1).toNat]?:=λv v1 v2=>by
    rw [List.getElem?_set];by_cases hv:v=g it m
    ·rw [if_pos (by rw [hv]),if_pos (by simp; omega),if_pos hv]; rfl
    ·rw [if_neg (by omega),if_neg hv]
   refine ⟨by simp; omega,λi y hy=>?_,λv v1 v2 hv=>?_⟩
   ·rcases gL i y hy with ⟨rfl,rfl⟩ | ⟨i1,i2,hi⟩
    ·exact ⟨gm.1,gm.2,by rw [pm _ gm.1 gm.2,if_pos rfl]; rfl⟩
    ·have ha:=r.fc.jr i y hi;have hgy:=(gi (by omega)).1 hi;refine ⟨ha.1,ha.2.1,?_⟩;rw [pm y ha.1 ha.2.1,if_neg (λh=>by have:=inj (a:=i) (b:=m) (by omega) (by omega) (by rw [hgy,h]); omega),plx y ha.1 ha.2.1 (λh=>by have:=inj (a:=i) (b:=0) (by omega) (by omega) (by rw [hgy,h]); omega)];exact ha.2.2
   ·have vm:v≠g it m:=λh=>hv 0 (by rw [List.getElem?_set,if_pos rfl,if_pos (by omega),h]);rw [pm v v1 v2,if_neg vm];by_cases v0:v=g it 0
    ·rw [v0]; exact agO
    ·rw [plx v v1 v2 v0];refine r.fc.out v v1 v2 λi hi=>?_;have sx:=(List.getElem?_eq_some_iff.1 hi).1;have hg:=(gi sx).1 hi;by_cases i0:i=0
     ·subst i0; exact v0 hg.symm
     ·by_cases im:i=m
      ·subst im; exact vm hg.symm
      ·exact hv i (by rw [gL2 i (by omega) (by omega)]; exact hi)
  have l5:((it.take m).set 0 (g it m)).length=m:=by simp; omega
  have N1:=RV Of (by omega) (by rw [l5]; omega) hf5 (a:=0) (by rw [l5]; exact VG);refine az Ys N1 λe w6 ⟨he,hL⟩=>⟨he,?_⟩
  have eg0:((it.take m).set 0 (g it m)).getD 0 0=g it m:=by rw [List.getD_eq_getElem?_getD,List.getElem?_set,if_pos rfl,if_pos (by omega)]; rfl
  rw [eg0] at hL;obtain ⟨k6,pl6,Rw,hF6⟩:=hL;have Dp:af Q.F w w6:=(uX.trans k5 λi _ h=>by rcases h with h | h<;>simp [HI.F,HF,h]).trans k6 λi _ h=>by rcases h with h | h<;>simp [HI.F,HF,h]
  have ss:((it.take m).set 0 (g it m)).set 0 (g it m)=(it.take m).set 0 (g it m):=by rw [List.set_set]
  have agP:∀k,0<k->k<m->g ((it.take m).set 0 (g it m)) k=g it k:=λk h1 h2=>by
   unfold g;rw [List.getD_eq_getElem?_getD,List.getElem?_set,if_neg (by omega),List.getElem?_take,if_pos h2,List.getD_eq_getElem?_getD]
  have hd:=KI r.od 0 _ 0 ((it.take m).set 0 (g it m)) (g it m) rfl (by rw [l5]; exact VG) (λy hy=>by
    rw [ss] at hy;rcases List.mem_or_eq_of_mem_set hy with hy | hy
    ·exact r.fc.Gp y (List.mem_of_mem_take hy)
    ·rw [hy]; exact gm) (λk k1 k2 k3 k4=>by
    rw [l5] at k2;rw [ss,agP k (by omega) k2,agP _ (by omega) (by omega)];exact r.hp k k1 (by omega)) (Or.inl rfl) (Nat.le_refl _)
  rw [ss] at hd;refine ⟨Dp,_,_,pl6,Rw,by rw [<-M9]; exact hF6,λk k1 k2=>hd.1 k k1 (by rw [rU _ _ _ _ _ rfl] at k2; exact k2) (Nat.zero_le _),?_,λv v1 v2=>?_,r.wf.set _ _⟩
  ·rw [rU _ _ _ _ _ rfl,l5]; rw [abR] at CN; exact CN
  ·rw [hd.2.mem_iff,jY (n:=n) ⟨g0.1,g0.2⟩ ⟨v1,v2⟩ hwb];constructor
   ·intro hv;obtain ⟨i,hi⟩:=List.mem_iff_getElem?.1 hv;rw [List.getElem?_set] at hi;have hvi:∃j,0<j/\j<it.length/\it[j]?=some v:=by
     by_cases h0:0=i
     ·subst h0;rw [if_pos rfl,if_pos (by omega)] at hi;injection hi with hi;exact ⟨m,VG,by omega,by rw [mY (by omega),hi]⟩
     ·rw [if_neg h0,List.getElem?_take] at hi;split at hi
      ·exact ⟨i,by omega,by omega,hi⟩
      ·cases hi
    obtain ⟨j,j0,j1,hj⟩:=hvi;rw [if_neg (λh=>by have:=inj (a:=j) (b:=0) j1 bz (by rw [(gi j1).1 hj,h]); omega)];exact (r.mem v v1 v2).1 (List.mem_of_getElem? hj)
   ·intro hv;have v0:v≠g it 0:=λh=>by rw [if_pos h] at hv; cases hv
    rw [if_neg v0] at hv;obtain ⟨j,hj⟩:=List.mem_iff_getElem?.1 ((r.mem v v1 v2).2 hv);have j1:=(List.getElem?_eq_some_iff.1 hj).1;have hg:=(gi j1).1 hj;have j0:j≠0:=λh=>by subst h; exact v0 hg.symm
    by_cases jm:j=m
    ·subst jm;exact List.mem_of_getElem? (i:=0) (by rw [List.getElem?_set,if_pos rfl,if_pos (by omega),hg])
    ·exact List.mem_of_getElem? (i:=j) (by rw [List.getElem?_set,if_neg (by omega),List.getElem?_take,if_pos (by omega)]; exact hj)
 ·have VG:m=0:=by simp at hle; omega
  subst VG;refine ⟨uX,_,_,_,uR,⟨by simp; omega,λi y hy=>by simp at hy,λv v1 v2 _=>?_⟩,λk k1 k2=>by simp at k2,CN,λv v1 v2=>?_,r.wf.set _ _⟩
  ·by_cases v0:v=g it 0
   ·rw [v0]; exact agO
   ·rw [plx v v1 v2 v0];refine r.fc.out v v1 v2 λi hi=>?_;have sx:=(List.getElem?_eq_some_iff.1 hi).1;obtain rfl:i=0:=by omega
    exact v0 ((gi sx).1 hi).symm
  ·rw [jY (n:=n) ⟨g0.1,g0.2⟩ ⟨v1,v2⟩ hwb];constructor
   ·intro h; simp at h
   ·intro hv;have v0:v≠g it 0:=λh=>by rw [if_pos h] at hv; cases hv
    rw [if_neg v0] at hv;obtain ⟨j,hj⟩:=List.mem_iff_getElem?.1 ((r.mem v v1 v2).2 hv);have j1:=(List.getElem?_eq_some_iff.1 hj).1;obtain rfl:j=0:=by omega
    exact absurd ((gi j1).1 hj).symm v0
theorem PH.take (h:PH n w Q sc step aK wb) :
  Calls Tryz.prog 106 #[.pointer (some ⟨Q.h,0,none⟩)] w λe w'=>∃v,e=.returned v/\FH n w Q sc step aK wb v w':=by
 obtain ⟨it,rest,pl,r⟩:=h;refine IS (some ⟨Q.h,0,none⟩) w (FH n w Q sc step aK wb) ?_;unfold agt;refine ay ?_;simp only [ag,Nat.add_zero,Nat.reduceAdd,Nat.zero_add];refine au (r.rep.obj.cell 3) (aF (λh0=>?_) λh0=>?_)
 ·have h0:it.length=0:=by simpa using h0
  refine Or.inl ⟨λv=>?_,rfl,rfl⟩;cases hq:rA n wb v with
  | false=>rfl
  | true=>
   have:=(r.Wj v).2 hq;rw [List.eq_nil_of_length_eq_zero h0] at this;cases this
 ·have h0:0<it.length:=by
   have:¬it.length=0:=by simpa using h0
   omega
  refine ay ?_;simp only [ag,Nat.add_zero,Nat.reduceAdd,Nat.zero_add];refine az agE (abQ r h0) λe w' ⟨he,k,hp⟩=>⟨_,he,Or.inr ⟨g it 0,⟨(r.Wj _).1 (nV h0),λu hu=>?_⟩,rfl,k,hp⟩⟩
  obtain ⟨i,hi⟩:=List.mem_iff_getElem?.1 ((r.Wj u).2 hu);have aM:=(List.getElem?_eq_some_iff.1 hi).1;have:=I6 r.od r.fc.Gp r.hp i aM;rwa [Wh hi] at this
theorem PH.put (h:PH n w Q sc step aK wb) (v:Int) :
  Calls Tryz.prog 109 #[.pointer (some ⟨Q.h,0,none⟩),I v] w λe w'=>
   (¬(1<=v/\v<=n)/\e=.returned (I 2)/\w'=w)\/(rA n wb v=true/\e=.returned (I 50)/\w'=w)\/
   ((1<=v/\v<=n)/\rA n wb v=false/\e=.returned (I 0)/\af Q.F w w'/\PH n w' Q sc step aK (wb.set (v - 1).toNat true)):=by
 obtain ⟨it,rest,pl,r⟩:=h;let P:Value->World->Prop:=λx w'=>(¬(1<=v/\v<=n)/\x=I 2/\w'=w)\/(rA n wb v=true/\x=I 50/\w'=w)\/
   ((1<=v/\v<=n)/\rA n wb v=false/\x=I 0/\af Q.F w w'/\PH n w' Q sc step aK (wb.set (v - 1).toNat true))
 refine (IT (some ⟨Q.h,0,none⟩) v w P ?_).mono λe w' ⟨x,he,hx⟩=>?_
 ·unfold agv;have M9:=r.wf.Am;have TK:=r.wf.small;have sx:=r.il;refine az Yo (Yu r.rep v) λe w1 ⟨he,hw⟩=>⟨_,he,?_⟩
  subst hw;rw [M9];refine aF (λhb=>?_) λhb=>?_
  ·have hb:¬(1<=v/\v<=n):=by
    intro h;have:(decide (1<=v)&&decide (v<=(n:Int)))=true:=by simp [h]
    rw [this] at hb; cases hb
   exact Or.inl ⟨hb,rfl,rfl⟩
  ·have hv:1<=v/\v<=n:=by
    have hb:(decide (1<=v)&&decide (v<=(n:Int)))=true:=by simpa using hb
    simpa using hb
   obtain ⟨x,hx,EN⟩:=r.place hv;refine ay ?_;simp only [ag,Nat.add_zero,Nat.reduceAdd,Nat.zero_add];refine az Yq (Yv r.rep hv.1 (by omega) (by omega) hx) λe w2 ⟨he,hw⟩=>⟨_,he,?_⟩
   subst hw;have hA:rA n wb v=gZ wb v:=by unfold rA; simp [hv]
   refine aF (λh1=>?_) λh1=>?_
   ·have h1:0<=x:=by simpa using h1
    exact Or.inr (Or.inl ⟨by rw [hA]; exact EN.1 h1,rfl,rfl⟩)
   ·have h1:¬0<=x:=by simpa using h1
    have dO:rA n wb v=false:=by
     rw [hA];cases hq:gZ wb v with
     | false=>rfl
     | true=>exact absurd (EN.2 hq) h1
    refine ay ?_;simp only [ag,Nat.add_zero,Nat.reduceAdd,Nat.zero_add];have agQ:v∉it:=λh=>by rw [(r.Wj v).1 h] at dO; cases dO
    have aM:it.length<n:=by
     apply Classical.byContradiction;intro bL;have JF:it.length=n:=by have:=r.cap; omega
     -- one more aoZ there is room for
     have pS:(v :: it).Nodup:=by rw [List.nodup_cons]; exact ⟨agQ,r.fc.nodup⟩
     have iX:∀y∈v :: it,1<=y/\y<=n:=λy hy=>by
      rcases List.mem_cons.1 hy with rfl | hy
      ·exact hv
      ·exact r.fc.Gp y hy
     have nP:=mC n (v :: it) pS iX;simp at nP;omega
    have amk:Calls Tryz.prog 133 #[.pointer (some ⟨Q.h,3,none⟩),I v] w2 λe w'=>e=.returned (.tuple #[])/\af Q.F w2 w'/\PH n w' Q sc step aK (wb.set (v - 1).toNat true):=by
     refine (IY (some ⟨Q.h,3,none⟩) v w2 (λy w'=>y=.tuple #[]/\af Q.F w2 w'/\PH n w' Q sc step aK (wb.set (v - 1).toNat true)) ?_).mono λe w' ⟨v,he,hv,hk⟩=>⟨by rw [he,hv],hk⟩
     unfold agB;simp only [ag,Nat.add_zero,Nat.reduceAdd,Nat.zero_add];refine ay (au (r.rep.obj.cell 3) ?_);refine aD λb w3 R7 h3 k3=>?_;have oD:=r.rep.ax k3 λ_ _ h=>h;have CN:=r.cap;obtain ⟨r0,BP,R8⟩:∃r0 BP,rest=r0 :: BP:=by
      cases rest with
      | nil=>simp at CN; omega
      | cons a b=>exact ⟨a,b,rfl⟩
     have ao0:Q.ib≠b:=by have:=r.rep.items.lt; omega
     refine abP oD.items h3 (n:=it.length) (c:=it.length+rest.length) (by omega) (by simp) rfl λw4 h4 k4=>ay ?_;simp only [ag,Nat.add_zero,Nat.reduceAdd,Nat.zero_add];have oA:af Q.F w2 w4:=k3.none.trans k4 λi _ (h:i=Q.ib)=>by rw [h]; simp [HI.F,HF]
     refine aG (oD.obj.aJ k4 r.rep.hi) (by simp) rfl λw5 h5 k5 _=>ay ?_;simp only [ag,Nat.add_zero,Nat.reduceAdd,Nat.zero_add];have Of:nk w5 Q.h Q.sb Q.ib Q.pb sc step aK (it++[v]) BP pl:=by
      refine ⟨?_,(oD.gP.aJ k4 r.rep.si).aJ k5 (Ne.symm r.rep.hs),?_,(oD.jE.aJ k4 (Ne.symm r.rep.ip)).aJ k5 (Ne.symm r.rep.hp),r.rep.len,r.rep.hs,r.rep.hi,r.rep.hp,r.rep.si,r.rep.sp,r.rep.ip⟩
      ·have e3:(it++[v]).length+BP.length=it.length+rest.length:=by rw [R8]; simp; omega
       rw [e3,List.length_append];exact h5
      ·have:=h4.aJ k5 (Ne.symm r.rep.hi);have e4:((it++rest).map I).set it.length (I v)=((it++[v])++BP).map I:=by
        rw [R8,<-List.map_set,List.set_append_right _ _ (Nat.le_refl _),Nat.sub_self,List.set_cons_zero,List.append_assoc]; rfl
       rwa [e4] at this
     have pK:af Q.F w2 w5:=oA.thenS k5 (by simp [HI.F,HF]);refine au (h5.cell 3) ?_;have ew:IntKind.wrap .i64 (((it.length+1:Nat):Int) - 1)=((it.length:Nat):Int):=by rw [IntKind.wrap_i64]; omega
     rw [ew];have lX:g (it++[v]) it.length=v:=Wh (by rw [List.getElem?_append_right (Nat.le_refl _),Nat.sub_self]; rfl);have agR:FC n (it++[v]) (pl.set (v - 1).toNat (it.length:Int)):=by
      have aml:pl.length=n:=r.fc.len;refine ⟨by simpa using aml,λi y hy=>?_,λu u1 u2 hu=>?_⟩
      ·by_cases hi:i<it.length
       ·rw [List.getElem?_append_left hi] at hy;have ha:=r.fc.jr i y hy;refine ⟨ha.1,ha.2.1,?_⟩;have VY:y≠v:=λh=>agQ (h ▸ List.mem_of_getElem? hy);rw [List.getElem?_set,if_neg (by omega)]; exact ha.2.2
       ·have sx:=(List.getElem?_eq_some_iff.1 hy).1;rw [List.length_append,List.length_singleton] at sx;obtain rfl:i=it.length:=by omega
        rw [List.getElem?_append_right (Nat.le_refl _),Nat.sub_self,List.getElem?_cons_zero] at hy;injection hy with hy;subst hy;exact ⟨hv.1,hv.2,by rw [List.getElem?_set,if_pos rfl,if_pos (by omega)]⟩
      ·have huv:u≠v:=λh=>hu it.length (by rw [List.getElem?_append_right (Nat.le_refl _),Nat.sub_self,h]; rfl);rw [List.getElem?_set,if_neg (by omega)];refine r.fc.out u u1 u2 λi hi=>hu i ?_;rw [List.getElem?_append_left (List.getElem?_eq_some_iff.1 hi).1]; exact hi
     have hpc:PC sc.length (it++[v]) it.length ((it++[v]).getD it.length 0) pl:=by
      have eg:(it++[v]).getD it.length 0=v:=lX;rw [eg];refine ⟨by simp,hv.1,by omega,?_⟩;have ss:=vp (L:=it++[v]) (a:=it.length) (by simp);rw [lX] at ss;rw [ss,M9]; exact agR
     have hup:=Yw Of (by omega) (by simp; omega) (a:=it.length) (by simp) hpc;refine az Yr hup λe w6 ⟨he,hL⟩=>⟨he,by first | rfl | trivial,?_⟩
     obtain ⟨k6,pl6,Rw,hF6⟩:=hL;have eg:(it++[v]).getD it.length 0=g (it++[v]) it.length:=rfl;rw [eg] at Rw hF6;have ss:=vp (L:=it++[v]) (a:=it.length) (by simp);have amm:=agR.Gp;have ga:∀k,k<it.length->g (it++[v]) k=g it k:=λk hk=>by
      unfold g; rw [List.getD_eq_getElem?_getD,List.getD_eq_getElem?_getD,List.getElem?_append_left hk]
     have hu:=Yy r.od it.length (it++[v]) (g (it++[v]) it.length) (by simp) (by rw [ss]; exact amm) (λk k1 k2 k3=>by
       simp at k2;rw [ss,ga k (by omega),ga _ (by omega)];exact r.hp k k1 (by omega)) (λi1 k k1 k2 k3=>by simp at k2; omega)
     rw [ss] at hu;refine ⟨pK.trans k6 λi _ h=>by rcases h with h | h<;>simp [HI.F,HF,h],_,BP,pl6,Rw,by rw [<-M9]; exact hF6,hu.1,?_,λu u1 u2=>?_,r.wf.set _ _⟩
     ·rw [KE]; rw [R8] at CN; simp at CN ⊢; omega
     ·rw [hu.2.mem_iff,jY (n:=n) hv ⟨u1,u2⟩ r.wf.KL,List.mem_append,List.mem_singleton,r.mem u u1 u2];by_cases huv:u=v
      ·simp [huv]
      ·simp [huv]
    exact az agC amk λe w3 ⟨he,hk,hp⟩=>⟨he,Or.inr (Or.inr ⟨hv,dO,rfl,hk,hp⟩)⟩
 ·rcases hx with ⟨a,b,c⟩ | ⟨a,b,c⟩ | ⟨a,a2,b,c⟩
  ·exact Or.inl ⟨a,by rw [he,b],c⟩
  ·exact Or.inr (Or.inl ⟨a,by rw [he,b],c⟩)
  ·exact Or.inr (Or.inr ⟨a,a2,by rw [he,b],c⟩)
end
end eR
namespace T
open Go Vc
def V34 (bM:Int) (bN:Int) (gG:Int) (kF:Nat) (vq:Int) (vr:Int) (w:World) (R:qR):Prop:=
 cg w [qI bM,qI bN,qI gG,.float .f64 kF,qI vq,qI vr] 27 λb2 w1=>
 aW .i64 w1 ((⟨b2,0,none⟩:Addr).add 0) λx4=>
 aW .i64 w1 ((⟨b2,0,none⟩:Addr).add 1) λx5=>
 aW .i64 w1 ((⟨b2,0,none⟩:Addr).add 2) λx6=>
 lp (σ:=Int×Unit) (λs9 w2 k8=>match s9 with
  | (v7,_)=>
  bC (decide (v7<3)) (
   (0:Int)<=v7/\v7<((3:Nat):Int)/\∃dJ:Int,([qI x4,qI x5,qI x6]:List Value)[(Int.toNat v7)]?=some (qI dJ)/\
   bC (cond (decide (dJ<1)) true (decide (dJ>1048576))) (
    R (.bool false) w2) (
    k8 ((IntKind.wrap .i64 (v7+1)),()) w2)) (
   wR .f64 w2 ((⟨b2,0,none⟩:Addr).add 3) λfL=>
   gd (α:=Nat) ((FloatKind.format .f64).order fL 4602678819172646912==some .gt || (FloatKind.format .f64).order fL 4602678819172646912==some .eq) (λt_=>
    wR .f64 w2 ((⟨b2,0,none⟩:Addr).add 3) λic=>
    t_ ic w2) 0 w2 λeX w3=>
   gd (α:=Int) (cond ((FloatKind.format .f64).order fL 4602678819172646912==some .gt || (FloatKind.format .f64).order fL 4602678819172646912==some .eq) ((FloatKind.format .f64).order eX 4607182418800017408==some .lt || (FloatKind.format .f64).order eX 4607182418800017408==some .eq) false) (λF6=>
    aW .i64 w3 ((⟨b2,0,none⟩:Addr).add 4) λiU=>
    F6 iU w3) 0 w3 λlR w4=>
   gd (α:=Int) (cond (cond ((FloatKind.format .f64).order fL 4602678819172646912==some .gt || (FloatKind.format .f64).order fL 4602678819172646912==some .eq) ((FloatKind.format .f64).order eX 4607182418800017408==some .lt || (FloatKind.format .f64).order eX 4607182418800017408==some .eq) false) (decide (lR >= 1)) false) (λoA=>
    aW .i64 w4 ((⟨b2,0,none⟩:Addr).add 4) λiT=>
    oA iT w4) 0 w4 λjj w5=>
   R (.bool (cond (cond (cond ((FloatKind.format .f64).order fL 4602678819172646912==some .gt || (FloatKind.format .f64).order fL 4602678819172646912==some .eq) ((FloatKind.format .f64).order eX 4607182418800017408==some .lt || (FloatKind.format .f64).order eX 4607182418800017408==some .eq) false) (decide (lR >= 1)) false) (decide (jj<=3)) false)) w5)) (0,()) w1
theorem M_ (bM bN gG kF vq vr w R) (h:V34 bM bN gG kF vq vr w R):qE 34 #[.agg #[qI bM,qI bN,qI gG,.float .f64 kF,qI vq,qI vr]] w R:=qv (.s .l (.s (.s .l (.b (.o [(12,.one (.int .i64))] (.s .l (.s (.c .l .l) (.s (.b (.s .l (.s .l (.c (.s .l .l) .l)))) .l)))))) (.s .l .l))) Tryz.func34 (by kernel_rfl) (by kernel_rfl) h
theorem agS:br qQ 34:=by kernel_rfl
def V68 (bM:Int) (bN:Int) (gG:Int) (kF:Nat) (vq:Int) (vr:Int) (w:World) (R:qR):Prop:=
 cg w [qI bM,qI bN,qI gG,.float .f64 kF,qI vq,qI vr] 27 λb2 w1=>
 cg w1 [.nilFunc,.nilFunc,.nilFunc] 133 λb3 w2=>
 aW .i64 w2 ((⟨b2,0,none⟩:Addr).add 0) λx5=>
 aW .i64 w2 ((⟨b2,0,none⟩:Addr).add 1) λx6=>
 aW .i64 w2 ((⟨b2,0,none⟩:Addr).add 2) λx7=>
 wR .f64 w2 ((⟨b2,0,none⟩:Addr).add 3) λx8=>
 aW .i64 w2 ((⟨b2,0,none⟩:Addr).add 4) λx9=>
 aW .i64 w2 ((⟨b2,0,none⟩:Addr).add 5) λdR=>
 qb 34 [.agg #[qI x5,qI x6,qI x7,.float .f64 x8,qI x9,qI dR]] w2 λfh w3=>
 bC (!fh) (
  (True)/\
  st w3 ((⟨b3,0,none⟩:Addr).add 0) (.nilFunc) λw4=>
  st w4 ((⟨b3,0,none⟩:Addr).add 1) (.nilFunc) λw5=>
  st w5 ((⟨b3,0,none⟩:Addr).add 2) (.nilFunc) λw6=>
  nZ w6 ((⟨b3,0,none⟩:Addr).add 0) λdV=>
  nZ w6 ((⟨b3,0,none⟩:Addr).add 1) λeP=>
  nZ w6 ((⟨b3,0,none⟩:Addr).add 2) λfk=>
  R (.tuple #[.agg #[dV,eP,fk],qI 1]) w6) (
  cg w3 [qI 0] 3 λTw w7=>
  cg w7 [qI 0] 3 λEB w8=>
  cg w8 [qI 0] 3 λW7 w9=>
  st w9 ((⟨Tw,0,none⟩:Addr).add 0) (qI 0) λcK=>
  st cK ((⟨EB,0,none⟩:Addr).add 0) (qI 0) λdB=>
  st dB ((⟨W7,0,none⟩:Addr).add 0) (qI 0) λdF=>
  cg dF [qI 0] 3 λUe eA=>
  cg eA [qI 0] 3 λYz eG=>
  st eG ((⟨Ue,0,none⟩:Addr).add 0) (qI 1) λgT=>
  st gT ((⟨Yz,0,none⟩:Addr).add 0) (qI 0) λeM=>
  ((.func (.func 102) #[] #[qP Tw]:Value).oneCell'=true/\(.func (.func 103) #[] #[qP Tw,qP EB,qP b2,qP Ue]:Value).oneCell'=true/\(.func (.func 105) #[] #[qP Tw,qP W7,qP b2,qP Yz]:Value).oneCell'=true/\True)/\
  st eM ((⟨b3,0,none⟩:Addr).add 0) (.func (.func 102) #[] #[qP Tw]) λfe=>
  st fe ((⟨b3,0,none⟩:Addr).add 1) (.func (.func 103) #[] #[qP Tw,qP EB,qP b2,qP Ue]) λgB=>
  st gB ((⟨b3,0,none⟩:Addr).add 2) (.func (.func 105) #[] #[qP Tw,qP W7,qP b2,qP Yz]) λfV=>
  nZ fV ((⟨b3,0,none⟩:Addr).add 0) λiT=>
  nZ fV ((⟨b3,0,none⟩:Addr).add 1) λjj=>
  nZ fV ((⟨b3,0,none⟩:Addr).add 2) λiI=>
  R (.tuple #[.agg #[iT,jj,iI],qI 0]) fV)
theorem Na (bM bN gG kF vq vr w R) (h:V68 bM bN gG kF vq vr w R):qE 68 #[.agg #[qI bM,qI bN,qI gG,.float .f64 kF,qI vq,qI vr]] w R:=qv (.s .l (.s (.s .l (.c (.s .l .l) .l)) (.s .l (.s .l (.s .l .l))))) Tryz.func68 (by kernel_rfl) (by kernel_rfl) h
theorem amn:br qQ 68:=by kernel_rfl
def agT (c0:Addr) (w:World) (R:qR):Prop:=
 aW .i64 w c0 λx2=>
 st w (c0.add 0) (qI (IntKind.wrap .i64 (x2+1))) λw1=>
 R (.tuple #[]) w1
theorem I9 (c0 w R) (h:agT c0 w R):qE 102 #[.pointer (some c0)] w R:=qv (.l) Tryz.func102 (by kernel_rfl) (by kernel_rfl) h
theorem agU:br qQ 102:=by kernel_rfl
def agV (c0:Addr) (c1:Addr) (c2:Addr) (c3:Addr) (w:World) (R:qR):Prop:=
 aW .i64 w.drew c0 λx2=>
 aW .i64 w.drew c1 λx3=>
 aW .i64 w.drew (c2.add 0) λx4=>
 aW .i64 w.drew c3 λx5=>
 qi 104 [qI x5] w.drew λx6 w1=>
 (
  aW .i64 w1 (c2.add 0) λx8=>
  ((qI x8:Value)=qI x4))/\
 (
  aW .i64 w1 c1 λx9=>
  ((qI x9:Value)=qI x3))/\
 (
  aW .i64 w1 c0 λdR=>
  ((qI dR:Value)=qI x2))/\
 bC (decide ((IntKind.wrap .i64 (x2 - x3))<(IntKind.wrap .i64 (x4*x6)))) (
  R (.bool false) w1) (
  aW .i64 w1 c0 λeV=>
  st w1 (c1.add 0) (qI eV) λw2=>
  aW .i64 w2 c3 λeP=>
  st w2 (c3.add 0) (qI (IntKind.wrap .i64 (eP+1))) λw3=>
  R (.bool true) w3)
theorem I_ (c0 c1 c2 c3 w R) (h:agV c0 c1 c2 c3 w R):qE 103 #[.pointer (some c0),.pointer (some c1),.pointer (some c2),.pointer (some c3)] w R:=qv (.s .l (.s (.s (.d [0,0,3,0,8,0,32,120,255]) (.c (.s .l .l) .l)) (.s .l (.s .l (.s .l .l))))) Tryz.func103 (by kernel_rfl) (by kernel_rfl) h
theorem agW:br qQ 103:=by kernel_rfl
def agX (c0:Addr) (c1:Addr) (c2:Addr) (c3:Addr) (w:World) (R:qR):Prop:=
 aW .i64 w c0 λx3=>
 aW .i64 w c1 λx4=>
 aW .i64 w (c2.add 1) λx5=>
 aW .i64 w c3 λx6=>
 aW .i64 w (c2.add 2) λx7=>
 bC (decide ((IntKind.wrap .i64 (x3 - x4))<(IntKind.wrap .i64 (x5+(IntKind.wrap .i64 (x6*x7)))))) (
  R (.bool false) w) (
  aW .i64 w c0 λdR=>
  st w (c1.add 0) (qI dR) λw1=>
  aW .i64 w1 c3 λdJ=>
  st w1 (c3.add 0) (qI (IntKind.wrap .i64 (dJ+1))) λw2=>
  R (.bool true) w2)
theorem Ja (c0 c1 c2 c3 w R) (h:agX c0 c1 c2 c3 w R):qE 105 #[.pointer (some c0),.pointer (some c1),.pointer (some c2),.pointer (some c3)] w R:=qv (.s .l (.s (.s .l (.c (.s .l .l) .l)) (.s .l (.s .l (.s .l .l))))) Tryz.func105 (by kernel_rfl) (by kernel_rfl) h
theorem agY:br qQ 105:=by kernel_rfl
def agZ (a0:Int) (w:World) (R:qR):Prop:=
 bC (decide (a0<1)) (
  R (qI 0) w) (
  lp (σ:=Int×Unit) (λs7 w1 k6=>match s7 with
   | (v5,_)=>
   qi 127 [.int .u64 v5] w1 λx9 w2=>
   (0:Int)<=x9/\
   bC (v5==(IntKind.wrap .u64 ((IntKind.wrap .u64 (1*2 ^ (min (Int.toNat x9) (IntKind.bits .u64)))) - 1))) (
    (0:Int)<=(IntKind.wrap .i64 (x9 - 1))/\
    R (qI (IntKind.wrap .i64 (1*2 ^ (min (Int.toNat (IntKind.wrap .i64 (x9 - 1))) (IntKind.bits .i64))))) w2) (
    (0:Int)<=(IntKind.wrap .i64 (x9 - 1))/\
    k6 ((IntKind.wrap .u64 (v5 - (IntKind.wrap .u64 ((IntKind.wrap .u64 (1*2 ^ (min (Int.toNat (IntKind.wrap .i64 (x9 - 1))) (IntKind.bits .u64)))) - 1)))),()) w2)) ((IntKind.wrap .u64 a0),()) w)
theorem Jb (a0 w R) (h:agZ a0 w R):qE 104 #[qI a0] w R:=qv (.s .l (.s (.s .l (.c (.s .l .l) .l)) (.s .l (.b (.o [(3,.one (.int .u64))] (.b (.s .l (.s (.s .l (.c (.s .l .l) .l)) .l)))))))) Tryz.func104 (by kernel_rfl) (by kernel_rfl) h
theorem ag0:br qQ 104:=by kernel_rfl
end T
namespace cS
open Go Vc T
def fN (n:Nat):Nat:=if n=0 then 0 else Nat.log2 n+1
theorem rB {n:Nat} (h:0<n):2 ^ (fN n - 1)<=n:=by
 unfold fN; rw [if_neg (by omega)]; exact Nat.log2_self_le (by omega)
theorem wL {n:Nat} (h:0<n):n<2 ^ fN n:=by
 unfold fN; rw [if_neg (by omega)]; exact Nat.lt_log2_self
theorem vt {n:Nat} (h:0<n):0<fN n:=by unfold fN; rw [if_neg (by omega)]; omega
theorem KM {n k:Nat} (h1:2 ^ k<=n) (h2:n<2 ^ (k+1)):fN n=k+1:=by
 have hp:0<2 ^ k:=Nat.two_pow_pos k;unfold fN;rw [if_neg (by omega),(Nat.log2_eq_iff (by omega)).2 ⟨h1,h2⟩]
theorem KN {n k:Nat} (h:n<2 ^ k):fN n<=k:=by
 rcases Nat.eq_zero_or_pos n with rfl | hp
 ·simp [fN]
 ·have h1:=rB hp;have h2:2 ^ (fN n - 1)<2 ^ k:=Nat.lt_of_le_of_lt h1 h;have:=(Nat.pow_lt_pow_iff_right (by omega:1<2)).1 h2;omega
theorem ag1 (n:Nat) (w:World) (h1:n<18446744073709551616) :
  Calls Tryz.prog 127 #[.int .u64 (n:Int)] w λe w'=>e=.returned (.int .i64 (fN n))/\w'=w:=by
 have h:=Any.bits_Len64 {SlLaysF0.n15.bits (P:=Tryz.prog) (ρ:=N_.ren) {N_.lays with} with} (n:Int) w (by omega) (by omega);have e:Lib.bitLen ((n:Int)).toNat=fN n:=by
  rw [Int.toNat_natCast,bitLen_eq _ (by omega)]; rfl
 rw [e] at h;exact h
def lub (n:Nat):Nat:=
 if h0:n=0 then 0 else if h:n+1=2 ^ fN n then 2 ^ (fN n - 1) else lub (n+1 - 2 ^ (fN n - 1))
termination_by n
decreasing_by
 have h1:=rB (n:=n) (by omega);have h2:=wL (n:=n) (by omega);have h3:=vt (n:=n) (by omega);have:1<2 ^ (fN n - 1):=by
  rcases Nat.eq_or_lt_of_le (show 1<=fN n from h3) with e | e
  ·rw [<-e] at h2 h; simp at h2 h; omega
  ·calc 1<2 ^ 1:=by omega
    _<=2 ^ (fN n - 1):=Nat.pow_le_pow_right (by omega) (by omega)
 omega
theorem C6 {n:Nat} (h0:0<n) (h:n+1=2 ^ fN n):lub n=2 ^ (fN n - 1):=by
 rw [lub,dif_neg (by omega),dif_pos h]
theorem Jc {n:Nat} (h0:0<n) (h:¬n+1=2 ^ fN n):lub n=lub (n+1 - 2 ^ (fN n - 1)):=by
 rw [lub,dif_neg (by omega),dif_neg h]
theorem vu {n:Nat} (h0:0<n):2 ^ fN n=2*2 ^ (fN n - 1):=by
 have:=vt h0;obtain ⟨k,hk⟩:∃k,fN n=k+1:=⟨fN n - 1,by omega⟩
 rw [hk,Nat.add_sub_cancel,Nat.pow_succ,Nat.mul_comm]
theorem abS (a:Int) (w:World) (ha:a<9223372036854775808) :
  Calls Tryz.prog 104 #[.int .i64 a] w λe w'=>e=.returned (.int .i64 (lub a.toNat))/\w'=w:=by
 refine (Jb a w (λv w'=>v=.int .i64 (lub a.toNat)/\w'=w) ?_).mono λe w' ⟨x,he,hv,hk⟩=>⟨by rw [he,hv],hk⟩
 unfold agZ;refine aF (λh=>?_) λh=>?_
 ·have h:a<1:=by simpa using h
  have:a.toNat=0:=by omega
  rw [this,lub]; exact ⟨rfl,rfl⟩
 have h:1<=a:=by simp at h; omega
 refine bX (λs w'=>w'=w/\∃m:Nat,s.1=m/\0<m/\m<9223372036854775808/\lub m=lub a.toNat) (λs _=>s.1.toNat)
  ⟨rfl,a.toNat,by simp only [IntKind.wrap_u64]; omega,by omega,by omega,rfl⟩ ?_
 rintro ⟨x,⟨⟩⟩ w1 ⟨rfl,m,rfl,h0,h1,h2⟩;simp only [];refine az N_.okL (ag1 m w1 (by omega)) λe w2 ⟨he,hw⟩=>⟨_,he,?_⟩
 subst hw;have b1:=rB h0;have b2:=wL h0;have b3:=vt h0;have b4:=KN (n:=m) (k:=63) (by omega);have b5:=vu h0;obtain ⟨k,hk⟩:∃k,fN m=k+1:=⟨fN m - 1,by omega⟩
 have e1:IntKind.wrap .i64 ((fN m:Int) - 1)=(k:Int):=by rw [IntKind.wrap_i64]; omega
 rw [e1];rw [hk] at b1 b2 b5 ⊢;simp only [Nat.add_sub_cancel] at b1 b5;have e2:min (Int.toNat ((k+1:Nat):Int)) (IntKind.bits .u64)=k+1:=by
  show min _ 64=_;rw [Int.toNat_natCast]; omega
 have e3:min (Int.toNat (k:Int)) (IntKind.bits .u64)=k:=by
  show min _ 64=_;rw [Int.toNat_natCast]; omega
 have e3':min (Int.toNat (k:Int)) (IntKind.bits .i64)=k:=by
  show min _ 64=_;rw [Int.toNat_natCast]; omega
 rw [e2,e3,e3'];have c1:((2:Int) ^ (k+1))=((2 ^ (k+1):Nat):Int):=by norm_cast
 have c2:((2:Int) ^ k)=((2 ^ k:Nat):Int):=by norm_cast
 rw [c1,c2];have b6:2 ^ k<=2 ^ 62:=Nat.pow_le_pow_right (by omega) (by omega);have l1:=C6 h0;have l2:=Jc h0;rw [hk] at l1 l2;simp only [Nat.add_sub_cancel] at l1 l2;generalize 2 ^ (k+1)=q at *
 generalize 2 ^ k=p at *
 subst b5;have f1:IntKind.wrap .u64 (1*((2*p:Nat):Int))=((2*p:Nat):Int):=by rw [IntKind.wrap_u64]; omega
 have f2:IntKind.wrap .u64 (((2*p:Nat):Int) - 1)=((2*p:Nat):Int) - 1:=by rw [IntKind.wrap_u64]; omega
 have f3:IntKind.wrap .i64 (1*(p:Int))=(p:Int):=by rw [IntKind.wrap_i64]; omega
 have f4:IntKind.wrap .u64 (1*(p:Int))=(p:Int):=by rw [IntKind.wrap_u64]; omega
 have f5:IntKind.wrap .u64 ((p:Int) - 1)=(p:Int) - 1:=by rw [IntKind.wrap_u64]; omega
 have f6:IntKind.wrap .u64 ((m:Int) - ((p:Int) - 1))=((m+1 - p:Nat):Int):=by rw [IntKind.wrap_u64]; omega
 rw [f1,f2,f3,f4,f5,f6];refine ⟨by omega,aF (λht=>?_) λht=>?_⟩
 ·have ht:(m:Int)=((2*p:Nat):Int) - 1:=by simpa using ht
  refine ⟨by omega,?_,rfl⟩;rw [<-h2,l1 (by omega)]
 ·have ht:¬(m:Int)=((2*p:Nat):Int) - 1:=by simpa using ht
  have tq:1<p:=by
   rcases Nat.lt_or_ge 1 p with h | h
   ·exact h
   ·exfalso; omega
  refine ⟨by omega,⟨rfl,m+1 - p,rfl,by omega,by omega,?_⟩,by omega⟩;rw [<-h2,l2 (by omega)]
end cS
namespace cS
open Go Vc T
def Aa (x:Int):Bool:=decide (1<=x)&&decide (x<=1048576)
def C7 (d:Nat):Bool:=(FloatKind.format .f64).order d 4602678819172646912==some .gt || (FloatKind.format .f64).order d 4602678819172646912==some .eq
def KO (d:Nat):Bool:=(FloatKind.format .f64).order d 4607182418800017408==some .lt || (FloatKind.format .f64).order d 4607182418800017408==some .eq
def formed (b f g:Int) (d:Nat) (p:Int):Bool:=Aa b&&Aa f&&Aa g&&(C7 d&&KO d)&&(decide (1<=p)&&decide (p<=3))
theorem Ab (b f g:Int) (d:Nat) (p q:Int) (w:World) :
  Calls Tryz.prog 34 #[.agg #[.int .i64 b,.int .i64 f,.int .i64 g,.float .f64 d,.int .i64 p,.int .i64 q]] w
   λe w'=>e=.returned (.bool (formed b f g d p))/\af aq w w':=by
 refine (M_ b f g d p q w (λv w'=>v=.bool (formed b f g d p)/\af aq w w') ?_).mono λe w' ⟨v,he,hv,hk⟩=>⟨by rw [he,hv],hk⟩
 unfold V34;simp only [cg];have hB:=b_.new w [.int .i64 b,.int .i64 f,.int .i64 g,.float .f64 d,.int .i64 p,.int .i64 q] 27;have hK:af aq w (w.alloc (.cells [.int .i64 b,.int .i64 f,.int .i64 g,.float .f64 d,.int .i64 p,.int .i64 q].toArray 27)):=(af.refl _ w).alloc _;generalize w.alloc (.cells [.int .i64 b,.int .i64 f,.int .i64 g,.float .f64 d,.int .i64 p,.int .i64 q].toArray 27)=w1 at hB hK;simp only [ag,Nat.zero_add];refine ah (hB.cell 0) (ah (hB.cell 1) (ah (hB.cell 2) ?_));refine bX (λs w'=>w'=w1/\0<=s.1/\s.1<=3/\(1<=s.1->Aa b=true)/\(2<=s.1->Aa f=true)/\(3<=s.1->Aa g=true)) (λs _=>(3 - s.1).toNat) ⟨rfl,by simp⟩ ?_;rintro ⟨i,⟨⟩⟩ w2 ⟨rfl,h0,h3,hb,hf,hg⟩;simp only [];simp only [] at h0 h3 hb hf hg;refine aF (λaM=>?_) (λbL=>?_)
 ·have age:i<3:=by simpa using aM
  refine ⟨h0,age,?_⟩;have step:∀x:Int,([.int .i64 b,.int .i64 f,.int .i64 g]:List Value)[i.toNat]?=some (.int .i64 x)->(Aa x=true->(1<=i+1->Aa b=true)/\(2<=i+1->Aa f=true)/\(3<=i+1->Aa g=true))->
    (Aa x=false->formed b f g d p=false)->
    ∃dJ,([.int .i64 b,.int .i64 f,.int .i64 g]:List Value)[i.toNat]?=some (.int .i64 dJ)/\bC (bif decide (dJ<1) then true else decide (dJ>1048576)) (Value.bool false=Value.bool (formed b f g d p)/\af aq w w2)
     ((True/\0<=IntKind.wrap .i64 (i+1)/\IntKind.wrap .i64 (i+1)<=3/\(1<=IntKind.wrap .i64 (i+1)->Aa b=true)/\(2<=IntKind.wrap .i64 (i+1)->Aa f=true)/\(3<=IntKind.wrap .i64 (i+1)->Aa g=true))/\(3 - IntKind.wrap .i64 (i+1)).toNat<(3 - i).toNat):=by
   intro x hx h1 h2;refine ⟨x,hx,?_⟩;have hw:IntKind.wrap .i64 (i+1)=i+1:=by rcases (by omega:i=0\/i=1\/i=2) with rfl | rfl | rfl<;>rfl
   rw [hw];cases ho:Aa x with
   | false=>
    refine aX ?_ ⟨by rw [h2 ho],hK⟩;simp only [Aa,Bool.and_eq_false_iff,decide_eq_false_iff_not] at ho;simp only [Bool.cond_true_left,Bool.or_eq_true,decide_eq_true_eq];omega
   | true=>
    have Hp:=h1 ho;simp only [Aa,Bool.and_eq_true,decide_eq_true_eq] at ho;refine aT ?_ ⟨⟨trivial,by omega,by omega,Hp.1,Hp.2.1,Hp.2.2⟩,by omega⟩;simp only [Bool.cond_true_left,Bool.or_eq_false_iff,decide_eq_false_iff_not];omega
  rcases (by omega:i=0\/i=1\/i=2) with rfl | rfl | rfl
  ·exact step b rfl (λh=>⟨λ_=>h,λh=>absurd h (by omega),λh=>absurd h (by omega)⟩) (λh=>by simp [formed,h])
  ·exact step f rfl (λh=>⟨λ_=>hb (by omega),λ_=>h,λh=>absurd h (by omega)⟩) (λh=>by simp [formed,h])
  ·exact step g rfl (λh=>⟨λ_=>hb (by omega),λ_=>hf (by omega),λ_=>h⟩) (λh=>by simp [formed,h])
 ·have ao1:¬i<3:=by simpa using bL
  obtain rfl:i=3:=by omega
  refine dY (hB.cell 3) ?_;refine iR d (λ_ K hk=>dY (hB.cell 3) hk) ?_;refine iR p (λ_ K hk=>ah (hB.cell 4) hk) ?_;refine iR p (λ_ K hk=>ah (hB.cell 4) hk) ?_;refine ⟨?_,hK⟩;congr 1;simp only [formed,hb (by omega),hf (by omega),hg (by omega),C7,KO,Bool.true_and];rcases Bool.eq_false_or_eq_true ((FloatKind.format .f64).order d 4602678819172646912==some .gt || (FloatKind.format .f64).order d 4602678819172646912==some .eq) with hX | hX
  ·simp only [hX,cond_true,Bool.true_and];rcases Bool.eq_false_or_eq_true ((FloatKind.format .f64).order d 4607182418800017408==some .lt || (FloatKind.format .f64).order d 4607182418800017408==some .eq) with hY | hY
   ·simp only [hY,cond_true,Bool.true_and];by_cases h1:1<=p<;>simp [h1]
   ·simp [hY]
  ·simp [hX]
end cS
namespace cS
open Go Vc T
abbrev I (n:Int):Value:=.int .i64 n
abbrev F (n:Nat):Value:=.float .f64 n
abbrev Pt (b:Nat):Value:=.pointer (some ⟨b,0,none⟩)
abbrev wr (n:Int):Int:=IntKind.wrap .i64 n
structure BQ where
 f:Nat
 c:Nat
 r:Nat
 l:Nat
 k:Nat
 j:Nat
def BQ.ok (A:BQ) (m:Nat):Prop:=A.f<A.c/\A.c<A.r/\A.r<A.l/\A.l<A.k/\A.k<A.j/\A.j<m
structure l_ (w:World) (A:BQ) (bs f g n r l k j:Int):Prop where
 c:b_ w A.c [I n] 3
 r:b_ w A.r [I r] 3
 l:b_ w A.l [I l] 3
 k:b_ w A.k [I k] 3
 j:b_ w A.j [I j] 3
 f:∃d p q,b_ w A.f [I bs,I f,I g,F d,I p,I q] 27
theorem l_.ax {w w':World} {A:BQ} {bs f g n r l k j:Int} {S:Nat->Prop} (h:l_ w A bs f g n r l k j) (hk:af S w w')
  (h1:¬S A.c) (h2:¬S A.r) (h3:¬S A.l) (h4:¬S A.k) (h5:¬S A.j) (h6:¬S A.f):l_ w' A bs f g n r l k j:=by
 obtain ⟨a,b,c,d,e,x,y,z,hf⟩:=h;exact ⟨a.ax hk h1,b.ax hk h2,c.ax hk h3,d.ax hk h4,e.ax hk h5,x,y,z,hf.ax hk h6⟩
section
variable {w:World} {A:BQ} {m:Nat} {bs f g n r l k j s rs h cl':Int}
theorem lN (hA:A.ok m) (hP:l_ w A bs f g n r l k j) :
  Calls Tryz.prog 102 #[Pt A.c] w λe w'=>e=.returned (.tuple #[])/\af (One A.c) w w'/\l_ w' A bs f g (wr (n+1)) r l k j:=by
 refine (I9 ⟨A.c,0,none⟩ w (λv w'=>v=.tuple #[]/\af (One A.c) w w'/\l_ w' A bs f g (wr (n+1)) r l k j) ?_).mono λe w' ⟨v,he,hv,hk⟩=>⟨by rw [he,hv],hk⟩
 unfold agT;obtain ⟨o1,o2,o3,o4,o5,o6⟩:=hA;refine ah (hP.c.cell 0) ?_;rw [ag];refine aG hP.c (by simp) rfl λw1 h1 k1 _=>⟨rfl,k1,h1,hP.r.aJ k1 (by omega),hP.l.aJ k1 (by omega),hP.k.aJ k1 (by omega),hP.j.aJ k1 (by omega),?_⟩
 obtain ⟨d,p,q,hf⟩:=hP.f;exact ⟨d,p,q,hf.aJ k1 (by omega)⟩
def due (bs n r k:Int):Bool:=!(decide (wr (n - r)<wr (bs*(lub k.toNat:Int))))
theorem nW (hA:A.ok m) (hP:l_ w A bs f g n r l k j) (hk:k<9223372036854775808) :
  Calls Tryz.prog 103 #[Pt A.c,Pt A.r,Pt A.f,Pt A.k] w λe w'=>e=.returned (.bool (due bs n r k))/\af (λi=>i=A.r\/i=A.k) w w'/\
   l_ w' A bs f g n (cond (due bs n r k) n r) l (cond (due bs n r k) (wr (k+1)) k) j:=by
 refine (I_ ⟨A.c,0,none⟩ ⟨A.r,0,none⟩ ⟨A.f,0,none⟩ ⟨A.k,0,none⟩ w (λv w'=>v=.bool (due bs n r k)/\af (λi=>i=A.r\/i=A.k) w w'/\
   l_ w' A bs f g n (cond (due bs n r k) n r) l (cond (due bs n r k) (wr (k+1)) k) j) ?_).mono λe w' ⟨v,he,hv,hk⟩=>⟨by rw [he,hv],hk⟩
 unfold agV;obtain ⟨o1,o2,o3,o4,o5,o6⟩:=hA;have hD:l_ w.drew A bs f g n r l k j:=⟨hP.c.drew,hP.r.drew,hP.l.drew,hP.k.drew,hP.j.drew,hP.f⟩
 obtain ⟨d,p,q,hf⟩:=hD.f;have kd:af (λi=>i=A.r\/i=A.k) w w.drew:=(af.refl _ w).drew;generalize w.drew=w0 at *
 refine ah (hD.c.cell 0) (ah (hD.r.cell 0) ?_);simp only [ag,Nat.zero_add];refine ah (hf.cell 0) (ah (hD.k.cell 0) ?_);refine az ag0 (abS k w0 hk) λe w1 ⟨he,hw⟩=>⟨_,he,?_⟩
 subst hw;refine ⟨ah (hf.cell 0) rfl,ah (hD.r.cell 0) rfl,ah (hD.c.cell 0) rfl,?_⟩;have ed:due bs n r k=!(decide (IntKind.wrap .i64 (n - r)<IntKind.wrap .i64 (bs*(lub k.toNat:Int)))):=rfl;refine aF (λht=>?_) λht=>?_
 ·rw [ht] at ed;rw [ed];exact ⟨rfl,kd,hD⟩
 ·rw [ht] at ed;rw [ed];refine ah (hD.c.cell 0) ?_;refine aG hD.r (by simp) rfl λw2 h2 k2 _=>?_;have LV:=hD.k.aJ k2 (by omega);refine ah (LV.cell 0) ?_;refine aG LV (by simp) rfl λw3 h3 k3 _=>⟨rfl,(kd.thenS k2 (Or.inl rfl)).thenS k3 (Or.inr rfl),?_⟩
  exact ⟨(hD.c.aJ k2 (by omega)).aJ k3 (by omega),h2.aJ k3 (by omega),(hD.l.aJ k2 (by omega)).aJ k3 (by omega),h3,(hD.j.aJ k2 (by omega)).aJ k3 (by omega),d,p,q,(hf.aJ k2 (by omega)).aJ k3 (by omega)⟩
def A4 (f g n l j:Int):Bool:=!(decide (wr (n - l)<wr (f+wr (j*g))))
theorem vv (hA:A.ok m) (hP:l_ w A bs f g n r l k j) :
  Calls Tryz.prog 105 #[Pt A.c,Pt A.l,Pt A.f,Pt A.j] w λe w'=>e=.returned (.bool (A4 f g n l j))/\af (λi=>i=A.l\/i=A.j) w w'/\
   l_ w' A bs f g n r (cond (A4 f g n l j) n l) k (cond (A4 f g n l j) (wr (j+1)) j):=by
 refine (Ja ⟨A.c,0,none⟩ ⟨A.l,0,none⟩ ⟨A.f,0,none⟩ ⟨A.j,0,none⟩ w (λv w'=>v=.bool (A4 f g n l j)/\af (λi=>i=A.l\/i=A.j) w w'/\
   l_ w' A bs f g n r (cond (A4 f g n l j) n l) k (cond (A4 f g n l j) (wr (j+1)) j)) ?_).mono λe w' ⟨v,he,hv,hk⟩=>⟨by rw [he,hv],hk⟩
 unfold agX;obtain ⟨o1,o2,o3,o4,o5,o6⟩:=hA;obtain ⟨d,p,q,hf⟩:=hP.f;have kd:af (λi=>i=A.l\/i=A.j) w w:=af.refl _ w;refine ah (hP.c.cell 0) (ah (hP.l.cell 0) ?_);simp only [ag,Nat.zero_add];refine ah (hf.cell 1) (ah (hP.j.cell 0) (ah (hf.cell 2) ?_));have ed:A4 f g n l j=!(decide (IntKind.wrap .i64 (n - l)<IntKind.wrap .i64 (f+IntKind.wrap .i64 (j*g)))):=rfl;refine aF (λht=>?_) λht=>?_
 ·rw [ht] at ed;rw [ed];exact ⟨rfl,kd,hP⟩
 ·rw [ht] at ed;rw [ed];refine ah (hP.c.cell 0) ?_;refine aG hP.l (by simp) rfl λw2 h2 k2 _=>?_;have LV:=hP.j.aJ k2 (by omega);refine ah (LV.cell 0) ?_;refine aG LV (by simp) rfl λw3 h3 k3 _=>⟨rfl,(kd.thenS k2 (Or.inl rfl)).thenS k3 (Or.inr rfl),?_⟩
  exact ⟨(hP.c.aJ k2 (by omega)).aJ k3 (by omega),(hP.r.aJ k2 (by omega)).aJ k3 (by omega),h2.aJ k3 (by omega),(hP.k.aJ k2 (by omega)).aJ k3 (by omega),h3,d,p,q,(hf.aJ k2 (by omega)).aJ k3 (by omega)⟩
theorem DU (x:Int):wr x<9223372036854775808:=by show IntKind.wrap .i64 x<_; rw [IntKind.wrap_i64]; omega
end
def fc (A:BQ):Value:=.func (.func 102) #[] #[Pt A.c]
def fr (A:BQ):Value:=.func (.func 103) #[] #[Pt A.c,Pt A.r,Pt A.f,Pt A.k]
def fl (A:BQ):Value:=.func (.func 105) #[] #[Pt A.c,Pt A.l,Pt A.f,Pt A.j]
theorem dP {k:FuncId} {first cap:Array Value} {args:List Value} {w:World} {R:Ending->World->Prop} (h:cl Tryz.prog k (first.toList++args++cap.toList) w R) :
  wS Tryz.prog (.func (.func k) first cap) args w R:=⟨k,first,cap,rfl,h⟩
section
variable {w:World} {A:BQ} {m:Nat}
end
end cS
namespace cS
open Go Vc T
theorem C8:∀n:Nat,0<n->∃j,lub n=2 ^ j/\j<fN n:=by
 intro n;induction n using Nat.strongRecOn with
 | ind n ih=>
  intro h0;by_cases h:n+1=2 ^ fN n
  ·exact ⟨fN n - 1,C6 h0 h,by have:=vt h0; omega⟩
  ·rw [Jc h0 h];have b1:=rB h0;have b2:=wL h0;have b5:=vu h0;have hp:0<2 ^ (fN n - 1):=Nat.two_pow_pos _;have h2:n+1 - 2 ^ (fN n - 1)<n:=by
    rcases Nat.lt_or_ge 1 (2 ^ (fN n - 1)) with hq | hq
    ·omega
    ·exfalso; apply h; omega
   obtain ⟨j,e,hj⟩:=ih _ h2 (by omega);refine ⟨j,e,Nat.lt_of_lt_of_le hj (KN ?_)⟩;omega
theorem BR {k:Nat} : lub (2*(2 ^ k - 1)+1)=2 ^ k:=by
 have hp:0<2 ^ k:=Nat.two_pow_pos _;have hs:2 ^ (k+1)=2*2 ^ k:=by rw [Nat.pow_succ,Nat.mul_comm]
 have hb:fN (2*(2 ^ k - 1)+1)=k+1:=KM (by omega) (by omega);rw [C6 (by omega) (by rw [hb]; omega),hb,Nat.add_sub_cancel]
theorem Nb {k i:Nat} (h0:0<i) (h1:i<=2 ^ k - 1):lub (2 ^ k - 1+i)=lub i:=by
 have hp:0<2 ^ k:=Nat.two_pow_pos _;have hs:2 ^ (k+1)=2*2 ^ k:=by rw [Nat.pow_succ,Nat.mul_comm]
 have hb:fN (2 ^ k - 1+i)=k+1:=KM (by omega) (by omega);rw [Jc (by omega) (by rw [hb]; omega),hb,Nat.add_sub_cancel];congr 1;omega
def jd:Nat->Nat
 | 0=>0
 | n+1=>jd n+lub (n+1)
theorem vw (a:Nat):∀b,jd (a+b)=jd a+((List.range b).map λi=>lub (a+(i+1))).sum
 | 0=>by simp
 | b+1=>by
  rw [<-Nat.add_assoc,jd,vw a b,List.range_succ,List.map_append,List.sum_append];simp [Nat.add_assoc]
theorem R9 (b:Nat):jd b=((List.range b).map λi=>lub (i+1)).sum:=by
 have:=vw 0 b;simpa [jd] using this
theorem Ac (k:Nat):jd (2*(2 ^ k - 1))=2*jd (2 ^ k - 1):=by
 have e:2*(2 ^ k - 1)=(2 ^ k - 1)+(2 ^ k - 1):=by omega
 rw [e,vw];have:((List.range (2 ^ k - 1)).map λi=>lub (2 ^ k - 1+(i+1)))=(List.range (2 ^ k - 1)).map λi=>lub (i+1):=by
  refine List.map_congr_left λi hi=>?_;have:=List.mem_range.1 hi;exact Nb (by omega) (by omega)
 rw [this,<-R9]; omega
theorem FI:∀k:Nat,2*jd (2 ^ k - 1)=k*2 ^ k
 | 0=>by simp [jd]
 | k+1=>by
  have hp:1<=2 ^ k:=Nat.one_le_two_pow;have e2:2 ^ (k+1)=2*2 ^ k:=by rw [Nat.pow_succ]; omega
  have e:2 ^ (k+1) - 1=2*(2 ^ k - 1)+1:=by omega
  rw [e,jd,Ac,BR];have:=FI k;have e3:(k+1)*(2 ^ k*2)=2*(k*2 ^ k)+2*2 ^ k:=by
   rw [Nat.add_mul,Nat.one_mul,Nat.mul_comm (2 ^ k) 2,<-Nat.mul_assoc,Nat.mul_comm k 2,Nat.mul_assoc]
  rw [Nat.pow_succ,e3];omega
theorem Nc {a b:Nat} (h:a<=b):jd a<=jd b:=by
 obtain ⟨c,rfl⟩:=Nat.le.dest h;rw [vw]; omega
theorem vz {B M r n:Nat} (hB:1<=B) (hM:M<2 ^ n) (h:∀i,1<=i->i<=r->B*lub i<=M):B*jd r<=2*n*M/\r<=4*M:=by
 -- yf least k aoo aop is too ao2
 have hex:∃k,M<B*2 ^ k:=⟨n,Nat.lt_of_lt_of_le hM (Nat.le_mul_of_pos_left _ hB)⟩
 have least:∀k,M<B*2 ^ k->∃j,j<=k/\M<B*2 ^ j/\∀i,i<j->B*2 ^ i<=M:=by
  intro k;induction k with
  | zero=>exact λh=>⟨0,Nat.le_refl _,h,λi hi=>by omega⟩
  | succ k ih=>
   intro hk;by_cases LV:M<B*2 ^ k
   ·obtain ⟨j,h1,h2,h3⟩:=ih LV;exact ⟨j,by omega,h2,h3⟩
   ·refine ⟨k+1,Nat.le_refl _,hk,λi hi=>Nat.le_trans (Nat.mul_le_mul_left _ (Nat.pow_le_pow_right (by omega) (show i<=k by omega))) (by omega)⟩
 obtain ⟨k,Eg,hk,agN⟩:=least n (Nat.lt_of_lt_of_le hM (Nat.le_mul_of_pos_left _ hB));have hp:1<=2 ^ k:=Nat.one_le_two_pow;have hr:r<=2*(2 ^ k - 1):=by
  apply Classical.byContradiction;intro hn;have:=h (2*(2 ^ k - 1)+1) (by omega) (by omega);rw [BR] at this;omega
 cases k with
 | zero=>
  have:r=0:=by simpa using hr
  subst this;exact ⟨by simp [jd],Nat.zero_le _⟩
 | succ k=>
  have h1:=agN k (by omega);have e2:2 ^ (k+1)=2*2 ^ k:=by rw [Nat.pow_succ]; omega
  refine ⟨?_,?_⟩
  ·have h2:jd r<=(k+1)*2 ^ (k+1):=by
    have:=Nc hr;rw [Ac,FI] at this; exact this
   calc B*jd r<=B*((k+1)*2 ^ (k+1)):=Nat.mul_le_mul_left _ h2
    _=2*(k+1)*(B*2 ^ k):=by
     rw [e2,<-Nat.mul_assoc,<-Nat.mul_assoc,<-Nat.mul_assoc];congr 1;rw [Nat.mul_comm B (k+1),Nat.mul_comm _ 2,<-Nat.mul_assoc]
    _<=2*(k+1)*M:=Nat.mul_le_mul_left _ h1
    _<=2*n*M:=Nat.mul_le_mul_right _ (Nat.mul_le_mul_left _ Eg)
  ·have h3:2 ^ k<=M:=Nat.le_trans (Nat.le_mul_of_pos_left _ hB) h1;omega
end cS
namespace Sv
open Go Vc T bp
open Trail (St upto)
open eR (jv rA gZ pF Wf gY iD jK rj)
open cS (A4 wr lub jd vz formed)
open bt (bg)
structure kN where
 bs:Int
 f:Int
 g:Int
 d:Nat
 ph:Int
 dh:Int
structure SS where
 E:ES
 sc:List Nat
 st:Nat
 wb:List Bool
 last:List Bool
 n:Int
 r:Int
 l:Int
 k:Int
 j:Int
 cf:Nat
structure Ou where
 fin:Int
 model:List Bool
 proof:List (Bool×List Int)
 cf:Int
open Classical in
noncomputable def je (n:Nat) (sc:List Nat) (wb:List Bool):Option Int:=if h:∃x,jv n sc wb x then some (Classical.choose h) else none
theorem xE {n:Nat} {sc:List Nat} {wb:List Bool} {st d:Nat} (hw:Wf n sc st d wb) {x:Int} (h:jv n sc wb x):je n sc wb=some x:=by
 have hex:∃x,jv n sc wb x:=⟨x,h⟩
 unfold je;rw [dif_pos hex];rw [jv.unique hw (Classical.choose_spec hex) h]
theorem FJ {n:Nat} {sc:List Nat} {wb:List Bool} (h:pF n wb):je n sc wb=none:=by
 unfold je;rw [dif_neg];rintro ⟨x,hx,_⟩;rw [h x] at hx; cases hx
def gf (ph:Int) (last:List Bool) (v:Int):Int:=if ph=2\/(ph=3/\last.getD (v - 1).toNat false=true) then v else -v
def cV (l:List E) (last wb:List Bool):List Bool×List Bool:=l.foldl (λ(a:List Bool×List Bool) e=>(a.1.set (e.lit.natAbs - 1) (decide (0<e.lit)),a.2.set (e.lit.natAbs - 1) true)) (last,wb)
def tF (cl:List Int) (sc:List Nat) (st:Nat):List Nat×Nat:=cl.foldl (λa (l:Int)=>gY a.1 a.2 (l.natAbs:Int)) (sc,st)
def pG (cl:List Int) (sc:List Nat) (st d:Nat):List Nat×Nat:=iD (tF cl sc st).1 (tF cl sc st).2 d
noncomputable def bV (c : kN) (S : SS) : SS :=
  if (aN S.E).dead = true then { S with E := aN S.E, cf := S.cf + 1 }
  else
    { S with E := aN S.E, cf := S.cf + 1, last := (cV (S.E.R.drop ((aN S.E).R.length - 1)) S.last S.wb).1, wb := (cV (S.E.R.drop ((aN S.E).R.length - 1)) S.last S.wb).2,
             sc := (pG (dQ S.E).1 S.sc S.st c.d).1, st := (pG (dQ S.E).1 S.sc S.st c.d).2, n := wr (S.n + 1) }
def ki (ls:List (List Int)):Nat->ES->ES
 | 0,e=>e
 | i+1,e=>ki ls i (if 2<(ls.getD i []).length then (forget e i).2 else e)
def wM (e:ES):ES:=ki (aU e) ((aU e).length / 2) e
def eZ (c:kN) (S:SS):SS:=
 let S1:SS:={S with E:=(aR S.E).2,last:=(cV (S.E.R.drop (aR S.E).2.R.length) S.last S.wb).1,wb:=(cV (S.E.R.drop (aR S.E).2.R.length) S.last S.wb).2}
 if A4 c.f c.g S.n S.l S.j=true then
  {S1 with l:=S.n,j:=wr (S.j+1),E:=if (spread S1.E).2=true then wM (spread S1.E).1 else (spread S1.E).1}
 else S1
noncomputable def vA (nv:Nat) (sc:List Nat) (ph:Int) (last:List Bool) (e:ES):Nat->List Bool->ES×List Bool
 | 0,wb=>(e,wb)
 | t+1,wb=>match je nv sc wb with
  | none=>(e,wb)
  | some x=>if iH e (gf ph last x)=0 then (dG e (gf ph last x),wb.set (x - 1).toNat false) else vA nv sc ph last e t (wb.set (x - 1).toNat false)
noncomputable def pH (c:kN) (S:SS):SS:={S with E:=(vA S.E.nv S.sc c.ph S.last S.E (S.E.nv+1) S.wb).1,wb:=(vA S.E.nv S.sc c.ph S.last S.E (S.E.nv+1) S.wb).2}
noncomputable def round (c:kN) (S:SS):SS×Option Ou:=
 let S1:SS:={S with E:=(spread S.E).1}
 if (spread S.E).2=false then
  if 0<=c.dh/\(S.cf:Int)=c.dh then (S1,some ⟨3,[],[],c.dh⟩)
  else if (bV c S1).E.dead=true then (bV c S1,some ⟨2,[],(bV c S1).E.log,((S.cf+1:Nat):Int)⟩) else (bV c S1,none)
 else match fJ S1.E with
  | some m=>(S1,some ⟨1,m,[],S.cf⟩)
  | none=>if cS.due c.bs S.n S.r S.k=true then (eZ c {S1 with r:=S.n,k:=wr (S.k+1)},none) else (pH c S1,none)
noncomputable def run (c:kN):Nat->SS->Option Ou
 | 0,_=>none
 | t+1,S=>match round c S with
  | (_,some o)=>some o
  | (S',none)=>run c t S'
theorem yB {c:kN} : ∀(t t':Nat) (S:SS) (o o':Ou),run c t S=some o->run c t' S=some o'->o=o'
 | 0,_,S,o,o',h,_=>by cases h
 | t+1,0,S,o,o',_,h=>by cases h
 | t+1,t'+1,S,o,o',h,h'=>by
  unfold run at h h';generalize round c S=x at h h';obtain ⟨S',q⟩:=x;cases q with
  | some o1=>injection h with h; injection h' with h'; rw [<-h,<-h']
  | none=>exact yB t t' S' o o' h h'
def start (nv:Nat) (av:List (List Int)):SS:=⟨jc nv av,List.replicate nv 0,4607182418800017408,List.replicate nv true,List.replicate nv false,0,0,0,1,0,0⟩
end Sv
namespace Sv
open Go Vc T bp
open Trail (St upto)
open eR (jv rA gZ pF Wf gY iD jK rj Od rz jY)
open cS (A4 wr lub jd vz formed)
open bt (bg)
theorem FK {bf:Int->Int->Bool} {D:Int->Prop} (o:Od bf D):∀(l:List Int),(∀x∈l,D x)->l≠[]->∃x∈l,∀u∈l,bf u x=false
 | [],_,h=>absurd rfl h
 | [a],h,_=>⟨a,by simp,λu hu=>by rw [List.mem_singleton.1 hu]; exact o.irr (h a (by simp))⟩
 | a :: b :: l,h,_=>by
  obtain ⟨x,hx,hm⟩:=FK o (b :: l) (λy hy=>h y (List.mem_cons_of_mem _ hy)) (by simp);have hD:=h x (List.mem_cons_of_mem _ hx);have hDa:=h a (by simp);cases hq:bf a x with
  | true=>
   refine ⟨a,by simp,λu hu=>?_⟩;rcases List.mem_cons.1 hu with rfl | hu
   ·exact o.irr hDa
   ·exact o.trans a x u hDa hD (h u (List.mem_cons_of_mem _ hu)) (o.asym a x hDa hD hq) (hm u hu)
  | false=>
   refine ⟨x,List.mem_cons_of_mem _ hx,λu hu=>?_⟩;rcases List.mem_cons.1 hu with rfl | hu
   ·exact hq
   ·exact hm u hu
theorem oS {n:Nat} {wb:List Bool} {v:Int} : rA n wb v=true↔1<=v/\v<=n/\gZ wb v=true:=by
 unfold rA;simp only [Bool.and_eq_true,decide_eq_true_eq];exact ⟨λh=>⟨h.1.1,h.1.2,h.2⟩,λh=>⟨⟨h.1,h.2.1⟩,h.2.2⟩⟩
theorem Nd {n:Nat} {sc:List Nat} {wb:List Bool} {st d:Nat} (hw:Wf n sc st d wb) {v:Int} (h:rA n wb v=true):∃x,je n sc wb=some x/\rA n wb x=true:=by
 obtain ⟨v1,v2,_⟩:=oS.1 h;have bz:((List.range n).map (λi:Nat=>(i:Int)+1)).filter (λu=>rA n wb u)≠[]:=by
  apply List.ne_nil_of_mem (a:=v);rw [List.mem_filter];exact ⟨List.mem_map.2 ⟨(v - 1).toNat,List.mem_range.2 (by omega),by omega⟩,h⟩
 obtain ⟨x,hx,hm⟩:=FK (rz hw.nn hw.Am) _ (λy hy=>by
  have:=(List.mem_filter.1 hy).2;have:=oS.1 this;exact ⟨this.1,this.2.1⟩) bz
 have WV:=(List.mem_filter.1 hx).2;refine ⟨x,xE hw ⟨WV,λu hu=>hm u (List.mem_filter.2 ⟨?_,hu⟩)⟩,WV⟩;obtain ⟨u1,u2,_⟩:=oS.1 hu;exact List.mem_map.2 ⟨(u - 1).toNat,List.mem_range.2 (by omega),by omega⟩
theorem Nf (ph:Int) (last:List Bool) (v:Int):gf ph last v=v\/gf ph last v=-v:=by unfold gf; split<;>simp
def Opn (nv:Nat) (e:ES) (wb:List Bool):Prop:=∀v:Nat,1<=v->v<=nv->(∃x∈e.R,x.lit.natAbs=v)\/gZ wb (v:Int)=true
theorem R_ {e:ES} (hs:kJ e) (dS:e.nv<=1048576) (hr:e.rest=true) {l:Int} (hl:Wi e.nv l):(iH e l=0/\∀x∈e.R,x.lit.natAbs≠l.natAbs)\/(iH e l≠0/\∃x∈e.R,x.lit.natAbs=l.natAbs):=by
 have hf:=iA dS hl;have mN:¬¬(dw.fl l=true/\(l.natAbs:Int)<=e.nv):=λh=>h ⟨hf,by obtain ⟨_,a,b⟩:=hl; omega⟩;unfold bp.iH;rw [if_neg mN,if_neg (by rw [hr]; decide)];by_cases h0:vl e l=0
 ·rw [if_neg (λh=>h h0)];refine Or.inl ⟨rfl,λx hx jh=>?_⟩;obtain ⟨v1,v2⟩:=zF hs hx;rcases (by omega:x.lit=l\/x.lit=-l) with q | q
  ·rw [q] at v1; omega
  ·rw [q,Int.neg_neg] at v2; omega
 ·rw [if_pos h0];refine Or.inr ⟨by decide,?_⟩;rcases jU e l with q | q | q
  ·obtain ⟨x,hx,jh⟩:=IF q;exact ⟨x,hx,by rw [jh]⟩
  ·obtain ⟨x,hx,jh⟩:=zD q;exact ⟨x,hx,by rw [jh,Int.natAbs_neg]⟩
  ·exact absurd q h0
theorem Sa {nv:Nat} {x:Int} (h1:1<=x) (h2:x<=nv) (ph:Int) (last:List Bool):Wi nv (gf ph last x)/\(gf ph last x).natAbs=x.natAbs:=by
 rcases Nf ph last x with e | e<;>rw [e]<;>refine ⟨⟨?_,?_,?_⟩,?_⟩<;>omega
theorem count_set {wb:List Bool} {i:Nat} (h:wb[i]?=some true):(wb.set i false).count true+1=wb.count true:=by
 induction wb generalizing i with
 | nil=>simp at h
 | cons a wb ih=>
  cases i with
  | zero=>
   have:a=true:=by simpa using h
   subst this;simp
  | succ i=>
   have h':wb[i]?=some true:=by simpa using h
   have:=ih h';rw [List.set_cons_succ,List.count_cons,List.count_cons];omega
theorem C9 {nv:Nat} {wb:List Bool} (hl:wb.length=nv) {x:Int} (h1:1<=x) (h2:x<=nv) (h:gZ wb x=true):wb[(x - 1).toNat]?=some true:=by
 unfold gZ at h;rw [List.getD_eq_getElem?_getD] at h;cases hq:wb[(x - 1).toNat]? with
 | none=>rw [hq] at h; cases h
 | some b=>rw [hq] at h; simpa using h
theorem KP {nv:Nat} {sc:List Nat} {st d:Nat} {ph:Int} {last:List Bool} {e:ES} (hs:kJ e) (hn:e.nv=nv) (dS:nv<=1048576) (hr:e.rest=true) (abT:e.R.length<nv):∀(t:Nat) (wb:List Bool),Wf nv sc st d wb->Opn nv e wb->wb.count true<t->
  ∃l JN,vA nv sc ph last e t wb=(dG e l,JN)/\iH e l=0/\Wf nv sc st d JN/\Opn nv (dG e l) JN
 | 0,wb,_,_,hc=>by omega
 | t+1,wb,hw,ho,hc=>by
  -- there is an open variable
  have hex:∃v:Nat,1<=v/\v<=nv/\∀x∈e.R,x.lit.natAbs≠v:=by
   apply Classical.byContradiction;intro dO;have:=rR (l:=(List.range nv).map (·+1)) (m:=e.R.map λx=>x.lit.natAbs) (by
    rw [List.Nodup,List.pairwise_map];exact List.nodup_range.imp λh h'=>h (by omega)) λv hv=>by
    obtain ⟨i,hi,rfl⟩:=List.mem_map.1 hv;have hi:=List.mem_range.1 hi;apply Classical.byContradiction;intro hnm;exact dO ⟨i+1,by omega,by omega,λx hx hl=>hnm (List.mem_map.2 ⟨x,hx,hl⟩)⟩
   rw [List.length_map,List.length_map,List.length_range] at this;omega
  obtain ⟨v,v1,v2,v3⟩:=hex;have nB:gZ wb (v:Int)=true:=(ho v v1 v2).resolve_left λ⟨x,hx,hl⟩=>v3 x hx hl;obtain ⟨x,hx,WV⟩:=Nd hw (oS.2 ⟨by omega,by omega,nB⟩);obtain ⟨x1,x2,x3⟩:=oS.1 WV;obtain ⟨Oc,Yj⟩:=Sa x1 x2 ph last;have vF:=hw.set (x - 1).toNat false;have ag2:∀u:Nat,1<=u->u<=nv->(u:Int)≠x->gZ (wb.set (x - 1).toNat false) (u:Int)=gZ wb (u:Int):=λu u1 u2 bz=>by
   rw [jY ⟨x1,x2⟩ ⟨by omega,by omega⟩ hw.KL,if_neg bz]
  unfold vA;rw [hx];dsimp only;rcases R_ hs (by rw [hn]; exact dS) hr (l:=gf ph last x) (by rw [hn]; exact Oc) with ⟨hA,_⟩ | ⟨hA,y,hy,iB⟩
  ·rw [if_pos hA];refine ⟨_,_,rfl,hA,vF,λu u1 u2=>?_⟩;have hR:(dG e (gf ph last x)).R=e.R++[⟨gf ph last x,(e.L.length+1:Nat), -1⟩]:=by unfold dG; rw [if_pos hA]
   by_cases hux:(u:Int)=x
   ·exact Or.inl ⟨_,by rw [hR]; exact List.mem_append_right _ (List.mem_singleton.2 rfl),by show (gf ph last x).natAbs=u; rw [Yj]; omega⟩
   ·rw [ag2 u u1 u2 hux];exact (ho u u1 u2).imp (λ⟨y,hy,hl⟩=>⟨y,by rw [hR]; exact List.mem_append_left _ hy,hl⟩) id
  ·rw [if_neg hA];have yx:=C9 hw.KL x1 x2 x3;have vE:=count_set yx;exact KP hs hn dS hr abT t _ vF (λu u1 u2=>by
    by_cases hux:(u:Int)=x
    ·exact Or.inl ⟨y,hy,by rw [iB,Yj]; omega⟩
    ·rw [ag2 u u1 u2 hux]; exact ho u u1 u2) (by omega)
theorem abU {nv:Nat} {wb:List Bool} (hl:wb.length=nv) {i:Nat} (hi:i<nv) (u:Int) (h1:1<=u) (h2:u<=nv):gZ (wb.set i true) u=true↔u=(i:Int)+1\/gZ wb u=true:=by
 have:=jY (n:=nv) (wb:=wb) (v:=(i:Int)+1) (u:=u) ⟨by omega,by omega⟩ ⟨h1,h2⟩ hl true;have e:((i:Int)+1 - 1).toNat=i:=by omega
 rw [e] at this;rw [this];by_cases hu:u=(i:Int)+1
 ·rw [if_pos hu]; exact ⟨λ_=>Or.inl hu,λ_=>rfl⟩
 ·rw [if_neg hu]; exact ⟨Or.inr,λh=>h.resolve_left hu⟩
theorem KQ {nv:Nat} {sc:List Nat} {st d:Nat} : ∀(l:List E) (last wb:List Bool),(∀x∈l,Wi nv x.lit)->Wf nv sc st d wb->last.length=nv->
  Wf nv sc st d (cV l last wb).2/\(cV l last wb).1.length=nv/\∀u:Nat,1<=u->u<=nv->(gZ (cV l last wb).2 (u:Int)=true↔gZ wb (u:Int)=true\/∃x∈l,x.lit.natAbs=u)
 | [],last,wb,_,hw,hl=>⟨hw,hl,λu _ _=>by unfold cV; simp⟩
 | x :: l,last,wb,hx,hw,hl=>by
  obtain ⟨q0,q1,q2⟩:=hx x (by simp);have vF:=hw.set (x.lit.natAbs - 1) true;obtain ⟨a,b,c⟩:=KQ l (last.set (x.lit.natAbs - 1) (decide (0<x.lit))) _ (λy hy=>hx y (List.mem_cons_of_mem _ hy)) vF (by rw [List.length_set]; exact hl);refine ⟨a,b,λu u1 u2=>?_⟩;have e:cV (x :: l) last wb=cV l (last.set (x.lit.natAbs - 1) (decide (0<x.lit))) (wb.set (x.lit.natAbs - 1) true):=rfl;rw [e,c u u1 u2,abU hw.KL (by omega) (u:Int) (by omega) (by omega)];constructor
  ·rintro ((h | h) | ⟨y,hy,h⟩)
   ·exact Or.inr ⟨x,by simp,by omega⟩
   ·exact Or.inl h
   ·exact Or.inr ⟨y,List.mem_cons_of_mem _ hy,h⟩
  ·rintro (h | ⟨y,hy,h⟩)
   ·exact Or.inl (Or.inr h)
   ·rcases List.mem_cons.1 hy with rfl | hy
    ·exact Or.inl (Or.inl (by omega))
    ·exact Or.inr ⟨y,hy,h⟩
theorem KR {nv:Nat} {d:Nat} {wb:List Bool} : ∀(cl:List Int) (sc:List Nat) (st:Nat),(∀x∈cl,Wi nv x)->Wf nv sc st d wb->Wf nv (tF cl sc st).1 (tF cl sc st).2 d wb
 | [],sc,st,_,hw=>hw
 | x :: cl,sc,st,hx,hw=>by
  obtain ⟨q0,q1,q2⟩:=hx x (by simp);exact KR cl _ _ (λy hy=>hx y (List.mem_cons_of_mem _ hy)) (hw.bump (v:=(x.natAbs:Int)) ⟨by omega,by omega⟩)
theorem Wk {nv:Nat} {sc:List Nat} {st d:Nat} {wb:List Bool} (cl:List Int) (hx:∀x∈cl,Wi nv x) (hw:Wf nv sc st d wb):Wf nv (pG cl sc st d).1 (pG cl sc st d).2 d wb:=(KR cl sc st hx hw).Wg
end Sv
namespace Sv
open Go Vc T bp
open Trail (St upto)
open eR (jv rA gZ pF Wf gY iD jK rj Od rz jY)
open cS (A4 wr lub jd vz formed)
open bt (bg)
theorem oU {S:ES} (hd:S.dead=false):((spread S).2=true->(spread S).1.rest=true)/\((spread S).2=false->(spread S).1.aQ=true):=by
 by_cases h0:(S.dead || S.aQ)=true
 ·have e:spread S=(S,false):=by unfold spread; rw [if_pos h0]
  rw [e];exact ⟨(λh=>by cases h),λ_=>by rw [hd] at h0; simpa using h0⟩
 ·unfold spread;rw [if_neg h0];exact ⟨λh=>h,λh=>by
   show (!_)=true;rw [show _=false from h]; rfl⟩
structure Sk (av:List (List Int)) (nv cf d:Nat) (e:ES) (sc:List Nat) (st:Nat) (wb last:List Bool):Prop where
 iq:Iq av e
 Ao:e.nv=nv
 wf:Wf nv sc st d wb
 Sb:last.length=nv
 opn:Opn nv e wb
 al:e.dead=false
 mo:∀T,Yn T av->Mo T e
 sz:Sz (av.length+cf) (av.length*1048577+cf*(nv+1)) e
section
variable {av:List (List Int)} {nv cf d st:Nat} {e:ES} {sc:List Nat} {wb last:List Bool}
theorem Sk.spread (h:Sk av nv cf d e sc st wb last):Sk av nv cf d (bp.spread e).1 sc st wb last:=by
 have hf:=h.iq.iz.toInv.spread.2;obtain ⟨X,hX⟩:=hf.R;have hX':(bp.spread e).1.R=e.R++X:=hX;refine ⟨h.iq.spread,(BH h.iq.iz).trans h.Ao,h.wf,h.Sb,λv v1 v2=>(h.opn v v1 v2).imp (λ⟨x,hx,hl⟩=>⟨x,by rw [hX']; exact List.mem_append_left _ hx,hl⟩) id,(xD h.iq.iz).trans h.al,λT hT=>by unfold Mo; rw [rf h.iq.iz]; exact h.mo T hT,h.sz.spread h.iq.iz⟩
theorem FL (S:ES) (i:Int):(forget S i).2.R=S.R/\(forget S i).2.L=S.L/\(forget S i).2.rest=S.rest:=by
 rcases oR S i with ⟨_,h⟩ | ⟨k,dd,_,_,_,_,_,_,h⟩
 ·rw [h]; exact ⟨rfl,rfl,rfl⟩
 ·rw [h]; exact ⟨rfl,rfl,rfl⟩
theorem Sk.forget (h:Sk av nv cf d e sc st wb last) (i:Int):Sk av nv cf d (bp.forget e i).2 sc st wb last:=by
 obtain ⟨hR,_,_⟩:=FL e i;exact ⟨h.iq.forget i,(MR i).trans h.Ao,h.wf,h.Sb,λv v1 v2=>by rw [hR]; exact h.opn v v1 v2,(Fw i).trans h.al,λT hT c hc=>h.mo T hT c (uf i c hc),h.sz.forget i⟩
theorem wN (ls:List (List Int)):∀(i:Nat) (e:ES),Sk av nv cf d e sc st wb last->Sk av nv cf d (ki ls i e) sc st wb last/\(ki ls i e).R=e.R/\(ki ls i e).L=e.L
 | 0,e,h=>⟨h,rfl,rfl⟩
 | i+1,e,h=>by
  unfold ki;split
  ·obtain ⟨a,b,c⟩:=wN ls i _ (h.forget i);obtain ⟨r1,r2,_⟩:=FL e i;exact ⟨a,b.trans r1,c.trans r2⟩
  ·exact wN ls i e h
theorem A5 {α:Type} {l:List α} {x:α} (n:Nat) (h:x∈l):x∈l.take n\/x∈l.drop n:=by
 rw [<-List.take_append_drop n l] at h;exact List.mem_append.1 h
theorem C_ {S:ES} (hs:kJ S) {k:Int} (qD:0<=k) (hk:k<=S.L.length):S.R.take (upto k S.R).length=upto k S.R:=by
 have Kw:=jD hs qD hk
 conv=>rhs; rw [Kw.1]
 congr 1;have hh:=congrArg List.length Kw.1;rw [List.length_take] at hh;have:=Kw.2;omega
theorem FM (h:Sk av nv cf d e sc st wb last) {k:Int} (qD:0<=k) (hk:k<=e.L.length) {e':ES} (hR:∀x∈upto k e.R,x∈e'.R) :
  Opn nv e' (cV (e.R.drop (upto k e.R).length) last wb).2/\Wf nv sc st d (cV (e.R.drop (upto k e.R).length) last wb).2/\(cV (e.R.drop (upto k e.R).length) last wb).1.length=nv:=by
 have hw:∀x∈e.R.drop (upto k e.R).length,Wi nv x.lit:=λx hx=>by
  have:=gN (h.iq.iz.st.own x (List.mem_of_mem_drop hx));rwa [h.Ao] at this
 obtain ⟨a,b,c⟩:=KQ (e.R.drop (upto k e.R).length) last wb hw h.wf h.Sb;refine ⟨λv v1 v2=>?_,a,b⟩;rcases h.opn v v1 v2 with ⟨x,hx,hl⟩ | nB
 ·rcases A5 (upto k e.R).length hx with q | q
  ·rw [C_ h.iq.iz.st qD hk] at q;exact Or.inl ⟨x,hR x q,hl⟩
  ·exact Or.inr ((c v v1 v2).2 (Or.inr ⟨x,q,hl⟩))
 ·exact Or.inr ((c v v1 v2).2 (Or.inl nB))
theorem Sk.aR (h:Sk av nv cf d e sc st wb last) (hr:e.rest=true):(bp.aR e).2={fE e 0 with rest:=false}/\
  Sk av nv cf d (bp.aR e).2 sc st (cV (e.R.drop (bp.aR e).2.R.length) last wb).2 (cV (e.R.drop (bp.aR e).2.R.length) last wb).1:=by
 obtain ⟨hc,hd,_⟩:=h.iq.iz.re hr;have es:(bp.aR e).2={fE e 0 with rest:=false}:=by
  unfold bp.aR; rw [if_neg (by rw [hc,hd]; decide)]
 obtain ⟨a,b,c⟩:=FM (e':=(bp.aR e).2) h (k:=0) (by omega) (by omega) (λx hx=>by rw [es]; exact hx);have hl:(bp.aR e).2.R.length=(upto 0 e.R).length:=by rw [es]; rfl
 rw [hl];exact ⟨es,h.iq.aR,zQ.trans h.Ao,b,c,a,vg.trans h.al,λT hT=>by unfold Mo; rw [pE]; exact h.mo T hT,h.sz.aR⟩
theorem Sk.dec (h:Sk av nv cf d e sc st wb last) {l:Int} {JN:List Bool} (hw:Wf nv sc st d JN) (ho:Opn nv (dG e l) JN):Sk av nv cf d (dG e l) sc st JN last:=
 ⟨h.iq.dec l,(RM l).trans h.Ao,hw,h.Sb,ho,(Fu l).trans h.al,λT hT=>by unfold Mo; rw [xC]; exact h.mo T hT,h.sz.dec l⟩
theorem Sk.gE (h:Sk av nv cf d e sc st wb last) (hc:e.aQ=true) (hA:av.length+cf+1<=8796093022208) :
  (Iq av (aN e)/\(aN e).dead=true/\e.L=[]/\(∀T,¬Yn T av)/\Sz (av.length+(cf+1)) (av.length*1048577+(cf+1)*(nv+1)) (aN e)/\(aN e).log=e.log++[(false,[])])\/
  ((aN e).dead=false/\(aN e).L.length<e.L.length/\Du e+1<=Du (aN e)/\(∀vK st',Wf nv vK st' d wb->Sk av nv (cf+1) d (aN e) vK st' (cV (e.R.drop ((aN e).R.length - 1)) last wb).2 (cV (e.R.drop ((aN e).R.length - 1)) last wb).1)/\∀x∈(dQ e).1,Wi nv x):=by
 have hs1:=h.sz.h;have To:=h.sz.g;have pM:e.aC.length<=e.H.length:=zl h.iq.cz.lnd h.iq.iz.le;have hq:=h.iq.gE (by omega) (by omega);have hz:Sz (av.length+(cf+1)) (av.length*1048577+(cf+1)*(nv+1)) (aN e):=(h.sz.aN h.iq).mono (by omega) (by rw [h.Ao,Nat.add_mul]; omega);rcases kD h.iq with ⟨h1,_⟩ | ⟨_,h1,h2,h3,e1⟩ | ⟨_,h1,hf,e1⟩
 ·rw [hc] at h1; cases h1
 ·refine Or.inl ⟨hq,by rw [e1]; rfl,h2,λT hT=>?_,hz,by rw [e1]; rfl⟩;obtain ⟨x,hx,_⟩:=ue h.iq hc hT.no hT.tot hT.cl (h.mo T hT) (by rw [h3]; intro x hx; cases hx);rw [h3] at hx; cases hx
 ·obtain ⟨_,_,e5,e6,_⟩:=oJ e (pQ e);have hR:(aN e).R=upto (oP e).1 e.R++[(⟨(pQ e).headD 0,((((aY e (pQ e)).L.take (oP e).1.toNat).length:Nat):Int),xy e⟩:E)]:=by
   rw [e1];show upto (oP e).1 (aY e (pQ e)).R++[_]=_;rw [e5]; rfl
  have hl:(aN e).R.length - 1=(upto (oP e).1 e.R).length:=by rw [hR,List.length_append]; simp
  have hb:=hf.bl;have wC:=hf.b0;have hd:(aN e).dead=false:=by rw [e1]; exact (oQ e (pQ e)).2.2.2.1.trans h.al
  refine Or.inr ⟨hd,?_,by rw [e1]; exact RR h.iq.iz hf,λvK st' vF=>?_,?_⟩
  ·rw [e1];show ((aY e (pQ e)).L.take (oP e).1.toNat).length<_;rw [e6,List.length_take]; omega
  ·have h':Sk av nv cf d e vK st' wb last:=⟨h.iq,h.Ao,vF,h.Sb,h.opn,h.al,h.mo,h.sz⟩
   obtain ⟨a,b,c⟩:=FM (e':=aN e) h' wC (Int.le_of_lt hb) (λx hx=>by rw [hR]; exact List.mem_append_left _ hx);rw [hl];exact ⟨hq,(zR e).trans h.Ao,b,c,a,hd,λT hT=>(RP h.iq hT (h.mo T hT) h.al).1,hz⟩
  ·have e2:(dQ e).1=pQ e:=by unfold dQ; rw [if_neg (by rw [hc]; decide),if_neg h1]
   rw [e2,<-h.Ao]; exact hf.wi
end
end Sv
namespace Sv
open Go Vc T bp
open Trail (St upto)
open eR (jv rA gZ pF Wf gY iD jK rj Od rz jY)
open cS (A4 wr lub jd vz formed C8)
open bt (bg)
structure Sv (c:kN) (av:List (List Int)) (nv:Nat) (S:SS):Prop where
 k:Sk av nv S.cf c.d S.E S.sc S.st S.wb S.last
 cn:S.n=S.cf
 r0:0<=S.r
 r1:S.r<=S.cf
 k1:1<=S.k
 kr:S.k - 1<=S.r
 x1:(S.cf:Int) - S.r<=Du S.E
 x2:(S.cf:Int) - S.r<c.bs*lub S.k.toNat\/(S.cf:Int) - S.r+S.E.L.length<=c.bs*lub S.k.toNat+nv
 pr:S.r<=c.bs*jd (S.k.toNat - 1)+(S.k - 1)*nv
 pk:∀i:Nat,1<=i->i<=S.k.toNat - 1->c.bs*lub i<=2 ^ nv - 1
 bd:0<=c.dh->(S.cf:Int)<=c.dh
structure Co (c:kN) (nv n:Nat):Prop where
 b1:1<=c.bs
 b2:c.bs<=1048576
 nvl:nv<=1048576
 lim:nv<=20\/(0<=c.dh/\c.dh<=500)
 nl:n<=1048576
def Kb (nv:Nat):Nat:=(6*nv+1)*(2 ^ nv - 1)
section
variable {c:kN} {av:List (List Int)} {nv:Nat} {S:SS}
theorem KS {n:Nat} (h:0<n):1<=lub n:=by
 obtain ⟨j,e,_⟩:=C8 n h;rw [e]; exact Nat.one_le_two_pow
theorem Sv.vb (h:Sv c av nv S):(Du S.E:Int)<=2 ^ nv - 1:=by
 have:=abH h.k.iq.iz.st;rw [h.k.Ao] at this;have e:((2 ^ nv:Nat):Int)=(2:Int) ^ nv:=by rw [Int.natCast_pow]; rfl
 omega
theorem Sv.bound (hc:Co c nv av.length) (h:Sv c av nv S):S.cf<=Kb nv:=by
 have hp:1<=2 ^ nv:=Nat.one_le_two_pow;have e:((2 ^ nv:Nat):Int)=(2:Int) ^ nv:=by rw [Int.natCast_pow]; rfl
 have um:=hc.b1;have hbN:(c.bs.toNat:Int)=c.bs:=by omega
 obtain ⟨h1,h2⟩:=vz (B:=c.bs.toNat) (M:=2 ^ nv - 1) (r:=S.k.toNat - 1) (n:=nv) (by omega) (by omega) λi i1 i2=>by
  have:=h.pk i i1 i2;rw [<-hbN] at this;have:((c.bs.toNat*lub i:Nat):Int)<=((2 ^ nv - 1:Nat):Int):=by rw [Int.natCast_mul]; omega
  omega
 have hv:=h.vb;have hx:=h.x1;have hpr:=h.pr;have xd:=h.k1;have Hp:c.bs*(jd (S.k.toNat - 1):Int)<=((2*nv*(2 ^ nv - 1):Nat):Int):=by
  rw [<-hbN,<-Int.natCast_mul]; omega
 have S6:(S.k - 1)*(nv:Int)<=((4*(2 ^ nv - 1)*nv:Nat):Int):=by
  have e3:(S.k - 1)*(nv:Int)=(((S.k.toNat - 1)*nv:Nat):Int):=by
   rw [Int.natCast_mul];congr 1;omega
  rw [e3];exact Int.ofNat_le.2 (Nat.mul_le_mul_right _ h2)
 have ek:Kb nv=2*nv*(2 ^ nv - 1)+4*(2 ^ nv - 1)*nv+(2 ^ nv - 1):=by
  unfold Kb;rw [Nat.add_mul,Nat.one_mul];congr 1;generalize 2 ^ nv - 1=M;rw [show 4*M*nv=4*nv*M by rw [Nat.mul_assoc,Nat.mul_comm M nv,Nat.mul_assoc],<-Nat.add_mul];congr 1;omega
 rw [ek];omega
theorem Sc (h:nv<=20):Kb nv<=126877575:=by
 unfold Kb;have h1:2 ^ nv<=2 ^ 20:=Nat.pow_le_pow_right (by omega) h
 calc (6*nv+1)*(2 ^ nv - 1)<=121*(2 ^ 20 - 1):=Nat.mul_le_mul (by omega) (by omega)
  _=126877575:=by decide
theorem Sv.small (hc:Co c nv av.length) (h:Sv c av nv S):S.cf<=126877575:=by
 rcases hc.lim with q | ⟨q1,q2⟩
 ·exact Nat.le_trans (h.bound hc) (Sc q)
 ·have:=h.bd q1; omega
theorem KT (hc:Co c nv av.length) (h:Sv c av nv S):cS.due c.bs S.n S.r S.k=true↔¬(S.cf:Int) - S.r<c.bs*lub S.k.toNat:=by
 have hs:=h.small hc;have um:=hc.b1; have rN:=hc.b2;have hr:=h.r0; have Ol:=h.r1; have xd:=h.k1; have hkr:=h.kr;have e1:wr (S.n - S.r)=(S.cf:Int) - S.r:=by
  rw [h.cn]; unfold wr; rw [IntKind.wrap_i64]; omega
 obtain ⟨j,ej,hj⟩:=C8 S.k.toNat (by omega);have Dh:lub S.k.toNat<=S.k.toNat:=by
  have:=cS.rB (n:=S.k.toNat) (by omega);rw [ej];exact Nat.le_trans (Nat.pow_le_pow_right (by omega) (by omega)) this
 have hm:c.bs*(lub S.k.toNat:Int)<=1048576*126877576:=Int.mul_le_mul rN (by omega) (by omega) (by omega);have VG:0<=c.bs*(lub S.k.toNat:Int):=Int.mul_nonneg (by omega) (by omega);have e2:wr (c.bs*(lub S.k.toNat:Int))=c.bs*(lub S.k.toNat:Int):=by
  unfold wr; rw [IntKind.wrap_i64]; omega
 unfold cS.due;rw [e1,e2];simp
theorem Sv.spread (h:Sv c av nv S):Sv c av nv {S with E:=(bp.spread S.E).1}:=by
 have hf:=h.k.iq.iz.toInv.spread.2;have hv:=M0 h.k.iq.iz;have hL:(bp.spread S.E).1.L=S.E.L:=hf.L;exact ⟨h.k.spread,h.cn,h.r0,h.r1,h.k1,h.kr,(by have:=h.x1; show (S.cf:Int) - S.r<=Du (bp.spread S.E).1; omega),(by show _\/(S.cf:Int) - S.r+(bp.spread S.E).1.L.length<=_; rw [hL]; exact h.x2),h.pr,h.pk,h.bd⟩
def mu (nv:Nat) (S:SS):Nat:=((Kb nv - S.cf)*2+(if (S.cf:Int)=S.r then 0 else 1))*(nv+1)+(nv - S.E.R.length)
theorem Sv.gE (hc:Co c nv av.length) (h:Sv c av nv S) (g_:S.E.aQ=true) (hnb:¬(0<=c.dh/\(S.cf:Int)=c.dh)) :
  ((bV c S).E.dead=true/\(∀T,¬Yn T av)/\(bV c S).E=aN S.E)\/((bV c S).E.dead=false/\Sv c av nv (bV c S)/\mu nv (bV c S)<mu nv S):=by
 have hs:=h.small hc;have hn:=hc.nl;rcases h.k.gE g_ (by omega) with ⟨_,hd,_,hT,_⟩ | ⟨hd,hL,hv,hk,hcw⟩
 ·have e:bV c S={S with E:=aN S.E,cf:=S.cf+1}:=by unfold bV; rw [if_pos hd]
  rw [e];exact Or.inl ⟨hd,hT,rfl⟩
 ·have e:bV c S={S with E:=aN S.E,cf:=S.cf+1,last:=(cV (S.E.R.drop ((aN S.E).R.length - 1)) S.last S.wb).1,wb:=(cV (S.E.R.drop ((aN S.E).R.length - 1)) S.last S.wb).2,
                           sc:=(pG (dQ S.E).1 S.sc S.st c.d).1,st:=(pG (dQ S.E).1 S.sc S.st c.d).2,n:=wr (S.n+1)}:=by
   unfold bV; rw [if_neg (by rw [hd]; decide)]
  have Ol:=h.r1;have lU:=h.x1;have hle:=h.k.iq.iz.st.T5;have Xd:=h.k.iq.iz.st.len;have dS:=h.k.Ao;have hw:wr (S.n+1)=((S.cf+1:Nat):Int):=by rw [h.cn]; unfold wr; rw [IntKind.wrap_i64]; omega
  have hSv:Sv c av nv (bV c S):=by
   rw [e];refine ⟨hk _ _ (Wk _ hcw h.k.wf),hw,h.r0,?_,h.k1,h.kr,?_,?_,h.pr,h.pk,λhb=>?_⟩
   ·show S.r<=((S.cf+1:Nat):Int); omega
   ·show ((S.cf+1:Nat):Int) - S.r<=Du (aN S.E); omega
   ·show ((S.cf+1:Nat):Int) - S.r<c.bs*lub S.k.toNat\/((S.cf+1:Nat):Int) - S.r+(aN S.E).L.length<=c.bs*lub S.k.toNat+nv;rcases h.x2 with q | q<;>omega
   ·have:=h.bd hb;show ((S.cf+1:Nat):Int)<=c.dh;omega
  refine Or.inr ⟨by rw [e]; exact hd,hSv,?_⟩;have hb:=hSv.bound hc;rw [e] at hb ⊢;have lP:S.cf+1<=Kb nv:=hb;unfold mu;have e4:(Kb nv - S.cf)*2=(Kb nv - (S.cf+1))*2+2:=by omega
  show ((Kb nv - (S.cf+1))*2+(if ((S.cf+1:Nat):Int)=S.r then 0 else 1))*(nv+1)+(nv - (aN S.E).R.length)<((Kb nv - S.cf)*2+(if (S.cf:Int)=S.r then 0 else 1))*(nv+1)+(nv - S.E.R.length);rw [e4];have h5:((Kb nv - (S.cf+1))*2+(if ((S.cf+1:Nat):Int)=S.r then 0 else 1))*(nv+1)<=((Kb nv - (S.cf+1))*2+1)*(nv+1):=Nat.mul_le_mul_right _ (by split<;>omega);have h6:((Kb nv - (S.cf+1))*2+2)*(nv+1)<=((Kb nv - (S.cf+1))*2+2+(if (S.cf:Int)=S.r then 0 else 1))*(nv+1):=Nat.mul_le_mul_right _ (by omega);have h7:((Kb nv - (S.cf+1))*2+2)*(nv+1)=((Kb nv - (S.cf+1))*2+1)*(nv+1)+(nv+1):=by
   rw [show (Kb nv - (S.cf+1))*2+2=((Kb nv - (S.cf+1))*2+1)+1 by omega,Nat.add_mul _ 1,Nat.one_mul]
  omega
theorem Sv.begin (hc:Co c nv av.length) (h:Sv c av nv S) (hr:S.E.rest=true) (hd:cS.due c.bs S.n S.r S.k=true) :
  Sv c av nv (eZ c {S with r:=S.n,k:=wr (S.k+1)})/\mu nv (eZ c {S with r:=S.n,k:=wr (S.k+1)})<mu nv S:=by
 have hs:=h.small hc;have um:=hc.b1;have hr0:=h.r0; have Ol:=h.r1; have xd:=h.k1; have hkr:=h.kr;have lU:=h.x1;have hdi:=(KT hc h).1 hd;obtain ⟨e0,qD⟩:=h.k.aR hr;have hL0:(bp.aR S.E).2.L=[]:=by rw [e0]; rfl
 have hkw:wr (S.k+1)=S.k+1:=by unfold wr; rw [IntKind.wrap_i64]; omega
 have Eg:(S.k+1).toNat=S.k.toNat+1:=by omega
 have ag3:S.k.toNat - 1+1=S.k.toNat:=by omega
 have uc:=KS (n:=S.k.toNat) (by omega);have zH:=KS (n:=S.k.toNat+1) (by omega);have hb:(1:Int)<=c.bs*lub S.k.toNat:=by
  have:=Int.mul_le_mul um (show (1:Int)<=lub S.k.toNat by omega) (by omega) (by omega);omega
 have lP:(1:Int)<=c.bs*lub (S.k.toNat+1):=by
  have:=Int.mul_le_mul um (show (1:Int)<=lub (S.k.toNat+1) by omega) (by omega) (by omega);omega
 have pW:jd S.k.toNat=jd (S.k.toNat - 1)+lub S.k.toNat:=by
  conv=>lhs; rw [<-ag3]
  show jd (S.k.toNat - 1)+lub (S.k.toNat - 1+1)=_;rw [ag3]
 have hvb:=h.vb
 -- ag4 yf amo,if it is yf QD part
 have key:∀(S':SS),S'.cf=S.cf->S'.n=S.n->S'.r=S.n->S'.k=S.k+1->S'.E.L=[]->Sk av nv S'.cf c.d S'.E S'.sc S'.st S'.wb S'.last->Sv c av nv S'/\mu nv S'<mu nv S:=λS' q1 q2 q3 q4 q5 q6=>by
  rw [h.cn] at q3;refine ⟨⟨q6,by rw [q2,q1,h.cn],by rw [q3]; omega,by rw [q3,q1]; omega,by rw [q4]; omega,by rw [q4,q3]; omega,by rw [q1,q3]; omega,Or.inl (by rw [q1,q3,q4,Eg]; omega),?_,λi i1 i2=>?_,λhb=>by rw [q1]; exact h.bd hb⟩,?_⟩
  ·rw [q3,q4,Eg,Nat.add_sub_cancel,pW,Int.natCast_add,Int.mul_add];have hpr:=h.pr;have e5:(S.k+1 - 1)*(nv:Int)=(S.k - 1)*nv+nv:=by
    rw [show S.k+1 - 1=(S.k - 1)+1 by omega,Int.add_mul,Int.one_mul]
   rw [e5];rcases h.x2 with q | q<;>omega
  ·rw [q4,Eg,Nat.add_sub_cancel] at i2;by_cases hi:i=S.k.toNat
   ·rw [hi]; omega
   ·exact h.pk i i1 (by omega)
  ·unfold mu;rw [q1,q3,if_pos rfl,if_neg (show ¬(S.cf:Int)=S.r by omega)];have h7:((Kb nv - S.cf)*2+1)*(nv+1)=((Kb nv - S.cf)*2+0)*(nv+1)+(nv+1):=by
    rw [Nat.add_mul _ 1,Nat.one_mul]; rfl
   omega
 unfold eZ;dsimp only;split
 ·have ag5:=qD.spread;have hLs:(bp.spread (bp.aR S.E).2).1.L=[]:=qD.iq.iz.toInv.spread.2.L.trans hL0;split
  ·obtain ⟨a,_,b⟩:=wN (aU (bp.spread (bp.aR S.E).2).1) ((aU (bp.spread (bp.aR S.E).2).1).length / 2) _ ag5;exact key _ rfl rfl rfl hkw (b.trans hLs) a
  ·exact key _ rfl rfl rfl hkw hLs ag5
 ·exact key _ rfl rfl rfl hkw hL0 qD
theorem Sv.decide (hc:Co c nv av.length) (h:Sv c av nv S) (hr:S.E.rest=true) (hm:fJ S.E=none) (hd:cS.due c.bs S.n S.r S.k=false) :
  Sv c av nv (pH c S)/\mu nv (pH c S)<mu nv S:=by
 have abT:S.E.R.length<nv:=by
  rw [nS] at hm;split at hm
  ·rename_i q;rcases q with q | q
   ·rw [hr] at q; cases q
   ·rw [h.k.Ao] at q; exact q
  ·cases hm
 have IC:S.wb.count true<S.E.nv+1:=by
  have:=List.count_le_length (a:=true) (l:=S.wb);rw [h.k.wf.KL] at this;rw [h.k.Ao]; omega
 obtain ⟨l,JN,e1,hA,hw,ho⟩:=KP (ph:=c.ph) (last:=S.last) h.k.iq.iz.st h.k.Ao hc.nvl hr abT (S.E.nv+1) S.wb h.k.wf h.k.opn IC;have e:pH c S={S with E:=dG S.E l,wb:=JN}:=by
  unfold pH;rw [show vA S.E.nv S.sc c.ph S.last S.E (S.E.nv+1) S.wb=(dG S.E l,JN) by rw [<-e1,h.k.Ao]]
 have hdi:(S.cf:Int) - S.r<c.bs*lub S.k.toNat:=by
  apply Classical.byContradiction;intro hn;have:=(KT hc h).2 hn;rw [hd] at this; cases this
 have hR:(dG S.E l).R.length=S.E.R.length+1:=by
  unfold dG; rw [if_pos hA];show (S.E.R++[_]).length=_;rw [List.length_append]; rfl
 rw [e];refine ⟨⟨h.k.dec hw ho,h.cn,h.r0,h.r1,h.k1,h.kr,by show (S.cf:Int) - S.r<=Du (dG S.E l); rw [abI]; exact h.x1,Or.inl hdi,h.pr,h.pk,h.bd⟩,?_⟩;unfold mu;show _+(nv - (dG S.E l).R.length)<_+(nv - S.E.R.length);rw [hR];show ((Kb nv - S.cf)*2+(if (S.cf:Int)=S.r then 0 else 1))*(nv+1)+(nv - (S.E.R.length+1))<((Kb nv - S.cf)*2+(if (S.cf:Int)=S.r then 0 else 1))*(nv+1)+(nv - S.E.R.length);omega
inductive FN (c:kN) (av:List (List Int)) (nv:Nat):Ou->Prop
 | out:0<=c.dh->FN c av nv ⟨3,[],[],c.dh⟩
 | sat {e:ES} {m:List Bool} {k:Nat} : Iq av e->e.nv=nv->fJ e=some m->k<=Kb nv->(0<=c.dh->(k:Int)<=c.dh)->FN c av nv ⟨1,m,[],k⟩
 | unsat {l:List (Bool×List Int)} {k:Nat} : (∀T,¬Yn T av)->l≠[]->k<=Kb nv+1->(0<=c.dh->(k:Int)<=c.dh)->FN c av nv ⟨2,[],l,k⟩
theorem Da {S:ES} (h:(aN S).dead=true) (hd:S.dead=false):(aN S).log≠[]:=by
 unfold aN at h ⊢;split at h
 ·rw [hd] at h; cases h
 ·rename_i hc;rw [if_neg hc];split at h
  ·rename_i h1;rw [if_pos h1];show S.log++[_]≠[];simp
  ·rename_i h1;have:(aY S (pQ S)).dead=true:=h;rw [(oQ S (pQ S)).2.2.2.1,hd] at this; cases this
theorem FO (hc:Co c nv av.length) (h:Sv c av nv S):(∃S',round c S=(S',none)/\Sv c av nv S'/\mu nv S'<mu nv S)\/∃S' o,round c S=(S',some o)/\FN c av nv o:=by
 have h1:=h.spread;obtain ⟨f1,f2⟩:=oU h.k.al;have hf:=h.k.iq.iz.toInv.spread.2;obtain ⟨X,hX⟩:=hf.R;have hX':(bp.spread S.E).1.R=S.E.R++X:=hX;have hmu:mu nv {S with E:=(bp.spread S.E).1}<=mu nv S:=by
  unfold mu;show _+(nv - (bp.spread S.E).1.R.length)<=_;rw [hX',List.length_append];show ((Kb nv - S.cf)*2+(if (S.cf:Int)=S.r then 0 else 1))*(nv+1)+(nv - (S.E.R.length+X.length))<=((Kb nv - S.cf)*2+(if (S.cf:Int)=S.r then 0 else 1))*(nv+1)+(nv - S.E.R.length);omega
 have hb:=h.bound hc;unfold round;dsimp only;cases mN:(bp.spread S.E).2 with
 | false=>
  rw [if_pos rfl];by_cases sL:0<=c.dh/\(S.cf:Int)=c.dh
  ·rw [if_pos sL];exact Or.inr ⟨_,_,rfl,.out sL.1⟩
  ·rw [if_neg sL];rcases h1.gE hc (f2 mN) sL with ⟨hd,hT,hE⟩ | ⟨hd,hS,hm⟩
   ·rw [if_pos hd];have hdS:({S with E:=(bp.spread S.E).1} : SS).E.dead=false:=h1.k.al;refine Or.inr ⟨_,_,rfl,.unsat hT ?_ (by omega) λwC=>?_⟩
    ·rw [hE] at hd ⊢;exact Da hd hdS
    ·have:=h.bd wC;omega
   ·rw [if_neg (by rw [hd]; decide)];exact Or.inl ⟨_,rfl,hS,by omega⟩
 | true=>
  rw [if_neg (by decide)];cases hm:fJ (bp.spread S.E).1 with
  | some m=>exact Or.inr ⟨_,_,rfl,.sat h1.k.iq h1.k.Ao hm hb h.bd⟩
  | none=>
   dsimp only;cases YB:cS.due c.bs S.n S.r S.k with
   | true=>
    rw [if_pos rfl];obtain ⟨a,b⟩:=h1.begin hc (f1 mN) YB;exact Or.inl ⟨_,rfl,a,Nat.lt_of_lt_of_le b hmu⟩
   | false=>
    rw [if_neg (by decide)];obtain ⟨a,b⟩:=h1.decide hc (f1 mN) hm YB;exact Or.inl ⟨_,rfl,a,Nat.lt_of_lt_of_le b hmu⟩
theorem FP (hc:Co c nv av.length):∀(m:Nat) (S:SS),mu nv S<m->Sv c av nv S->∃t o,run c t S=some o/\FN c av nv o
 | 0,S,hm,_=>by omega
 | m+1,S,hm,h=>by
  rcases FO hc h with ⟨S',e,hS,hmu⟩ | ⟨S',o,e,ho⟩
  ·obtain ⟨t,o,ht,ho⟩:=FP hc m S' (by omega) hS;exact ⟨t+1,o,by unfold run; rw [e]; exact ht,ho⟩
  ·exact ⟨1,o,by unfold run; rw [e],ho⟩
end
end Sv
namespace T
open Go Vc
def V14 (bM:Int) (bN:qA) (bE:Nat) (bG:Nat) (dZ:Int) (d_:Int) (gH:Int) (gI:Nat) (jf:Int) (jg:Int) (w:World) (R:qR):Prop:=
 cg w [qI bM,.slice bN bE bG] 24 λb2 w1=>
 cg w1 [qI dZ,qI d_,qI gH,.float .f64 gI,qI jf,qI jg] 27 λb3 w2=>
 cg w2 [qI 0,.slice none 0 0,.slice none 0 0,qI 0] 33 λb4 w3=>
 qL w3 b2 0 λx6=>
 qC w3 b2 1 λx7 wZ Bj=>
 qb 33 [.agg #[qI x6,.slice x7 wZ Bj]] w3 λx8 w4=>
 gd (α:=(Int×Int×Int×Nat×Int×Int×Unit)) (!(!x8)) (λfD=>
  qL w4 b3 0 λfh=>
  qL w4 b3 1 λdJ=>
  qL w4 b3 2 λeV=>
  qF w4 b3 3 λdV=>
  qL w4 b3 4 λeP=>
  qL w4 b3 5 λfk=>
  fD (fh,dJ,eV,dV,eP,fk,()) w4) (0,0,0,0,0,0,()) w4 λfL w5=>
 gd (α:=Bool) (!(!x8)) (λt_=>
  qb 34 [.agg #[qI fL.1,qI fL.2.1,qI fL.2.2.1,.float .f64 fL.2.2.2.1,qI fL.2.2.2.2.1,qI fL.2.2.2.2.2.1]] w5 λic w6=>
  t_ ic w6) false w5 λj5 w7=>
 bC (cond (!x8) true (!j5)) (
  qS w7 b4 0 (qI 0) λw8=>
  qS w8 b4 1 (.slice none 0 0) λw9=>
  qS w9 b4 2 (.slice none 0 0) λcK=>
  qS cK b4 3 (qI 0) λdB=>
  qL dB b4 0 λlR=>
  qC dB b4 1 λiV xP zf=>
  qC dB b4 2 λiT ji j8=>
  qL dB b4 3 λjj=>
  R (.tuple #[.agg #[qI lR,.slice iV xP zf,.slice iT ji j8,qI jj],qI 1]) dB) (
  qL w7 b2 0 λjN=>
  qC w7 b2 1 λjo aan aao=>
  cl Tryz.prog 36 [.agg #[qI jN,.slice jo aan aao]] w7 λe32 dF=>∃m_:qA,∃uJ:Int,e32=Ending.returned (.tuple #[.pointer m_,qI uJ])/\
  qL dF.drew b2 0 λrJ=>
  qL dF.drew b3 0 λo_=>
  qL dF.drew b3 1 λlZ=>
  qL dF.drew b3 2 λtW=>
  qF dF.drew b3 3 λnh=>
  qL dF.drew b3 4 λpg=>
  qL dF.drew b3 5 λyh=>
  qL dF.drew b3 5 λDj=>
  cl Tryz.prog 37 [qI rJ,.agg #[qI o_,qI lZ,qI tW,.float .f64 nh,qI pg,qI yh]] dF.drew λe48 eA=>∃tY:Value,∃oC:Value,∃pL:Value,∃j_:Value,∃yq:Value,∃tX:Value,∃nA:Value,e48=Ending.returned (.agg #[tY,oC,pL,j_,yq,tX,nA])/\
  (
   qL eA b3 5 λng=>
   ((qI ng:Value)=qI Dj))/\
  cg eA [.pointer m_,tY,oC,pL,j_,yq,tX,nA,qI 0,qI Dj] 83 λb50 eG=>
  lp (σ:=Unit) (λs52 gT k51=>match s52 with
   | (_)=>
   cl Tryz.prog 38 [qP b50] gT λe59 eM=>∃vG:Int,∃(Bq:qA) (El L8:Nat),∃(Bt:qA) (EH EI:Nat),∃xe:Int,∃Br:Bool,e59=Ending.returned (.tuple #[.agg #[qI vG,.slice Bq El L8,.slice Bt EH EI,qI xe],.bool Br])/\
   cg eM [qI 0,.slice none 0 0,.slice none 0 0,qI 0] 33 λTx fe=>
   qS fe Tx 0 (qI vG) λgB=>
   qS gB Tx 1 (.slice Bq El L8) λfV=>
   qS fV Tx 2 (.slice Bt EH EI) λnF=>
   qS nF Tx 3 (qI xe) λog=>
   bC Br (
    qL og Tx 0 λOa=>
    qC og Tx 1 λDl Qj Qk=>
    qC og Tx 2 λBs AL CA=>
    qL og Tx 3 λv_=>
    qS og b4 0 (qI Oa) λxh=>
    qS xh b4 1 (.slice Dl Qj Qk) λmV=>
    qS mV b4 2 (.slice Bs AL CA) λnG=>
    qS nG b4 3 (qI v_) λjq=>
    qL jq b4 0 λDk=>
    qC jq b4 1 λpU xQ xR=>
    qC jq b4 2 λxS EC ED=>
    qL jq b4 3 λXE=>
    R (.tuple #[.agg #[qI Dk,.slice pU xQ xR,.slice xS EC ED,qI XE],qI 0]) jq) (
    k51 (()) og)) (()) eG)
theorem Ng (bM bN bE bG dZ d_ gH gI jf jg w R) (h:V14 bM bN bE bG dZ d_ gH gI jf jg w R):qE 14 #[.agg #[qI bM,.slice bN bE bG],.agg #[qI dZ,qI d_,qI gH,.float .f64 gI,qI jf,qI jg]] w R:=qv (.s .l (.s (.s .l (.c (.s .l .l) .l)) (.s .l (.s (.d [0,0,2,0,14,0,32,127,255,511]) (.b (.o [] (.b (.s .l (.s .l (.c (.s .l .l) .l)))))))))) Tryz.func14 (by kernel_rfl) (by kernel_rfl) h
theorem abV:br qQ 14:=by kernel_rfl
def V37 (a0:Int) (dZ:Int) (d_:Int) (gH:Int) (gI:Nat) (jf:Int) (jg:Int) (w:World) (R:qR):Prop:=
 cg w [qI dZ,qI d_,qI gH,.float .f64 gI,qI jf,qI jg] 27 λb2 w1=>
 cg w1 [.nilFunc,.nilFunc,.nilFunc,.nilFunc,.nilFunc,.nilFunc,.nilFunc] 80 λb3 w2=>
 wR .f64 w2 ((⟨b2,0,none⟩:Addr).add 3) λx5=>
 cl Tryz.prog 67 [qI a0,.float .f64 x5] w2 λe8 w3=>∃x6:qA,∃x7:Int,e8=Ending.returned (.tuple #[.pointer x6,qI x7])/\
 aW .i64 w3 ((⟨b2,0,none⟩:Addr).add 0) λdR=>
 aW .i64 w3 ((⟨b2,0,none⟩:Addr).add 1) λfh=>
 aW .i64 w3 ((⟨b2,0,none⟩:Addr).add 2) λdJ=>
 wR .f64 w3 ((⟨b2,0,none⟩:Addr).add 3) λeV=>
 aW .i64 w3 ((⟨b2,0,none⟩:Addr).add 4) λdV=>
 aW .i64 w3 ((⟨b2,0,none⟩:Addr).add 5) λeP=>
 cl Tryz.prog 68 [.agg #[qI dR,qI fh,qI dJ,.float .f64 eV,qI dV,qI eP]] w3 λe20 w4=>∃fk:Value,∃fL:Value,∃gh:Value,∃ic:Int,e20=Ending.returned (.tuple #[.agg #[fk,fL,gh],qI ic])/\
 cg w4 [.nilFunc,.nilFunc,.nilFunc] 133 λGb w5=>
 st w5 ((⟨Gb,0,none⟩:Addr).add 0) (fk) λw6=>
 st w6 ((⟨Gb,0,none⟩:Addr).add 1) (fL) λw7=>
 st w7 ((⟨Gb,0,none⟩:Addr).add 2) (gh) λw8=>
 aW .i64 w8.drew ((⟨b2,0,none⟩:Addr).add 4) λiU=>
 ∃(lR:qA) (Az AA:Nat),∃w9:World,(Instr.makeSlice 30 (qI a0) (qI a0)).run Tryz.prog w8.drew=.ok (.slice lR Az AA) w9/\
 (
  aW .i64 w9 ((⟨b2,0,none⟩:Addr).add 4) λiV=>
  ((qI iV:Value)=qI iU))/\
 cg w9 [.pointer x6,qI iU,.slice lR Az AA] 138 λuD cK=>
 nZ cK ((⟨Gb,0,none⟩:Addr).add 0) λiI=>
 nZ cK ((⟨Gb,0,none⟩:Addr).add 1) λjN=>
 nZ cK ((⟨Gb,0,none⟩:Addr).add 2) λjo=>
 ((iI:Value).oneCell'=true/\(jN:Value).oneCell'=true/\(jo:Value).oneCell'=true/\(.func (.func 69) #[qP uD] #[]:Value).oneCell'=true/\(.func (.func 70) #[qP uD] #[]:Value).oneCell'=true/\(.func (.func 71) #[qP uD] #[]:Value).oneCell'=true/\(.func (.func 72) #[qP uD] #[]:Value).oneCell'=true/\True)/\
 st cK ((⟨b3,0,none⟩:Addr).add 0) (iI) λdB=>
 st dB ((⟨b3,0,none⟩:Addr).add 1) (jN) λdF=>
 st dF ((⟨b3,0,none⟩:Addr).add 2) (jo) λeA=>
 st eA ((⟨b3,0,none⟩:Addr).add 3) (.func (.func 69) #[qP uD] #[]) λeG=>
 st eG ((⟨b3,0,none⟩:Addr).add 4) (.func (.func 70) #[qP uD] #[]) λgT=>
 st gT ((⟨b3,0,none⟩:Addr).add 5) (.func (.func 71) #[qP uD] #[]) λeM=>
 st eM ((⟨b3,0,none⟩:Addr).add 6) (.func (.func 72) #[qP uD] #[]) λfe=>
 nZ fe ((⟨b3,0,none⟩:Addr).add 0) λm_=>
 nZ fe ((⟨b3,0,none⟩:Addr).add 1) λuJ=>
 nZ fe ((⟨b3,0,none⟩:Addr).add 2) λig=>
 nZ fe ((⟨b3,0,none⟩:Addr).add 3) λrJ=>
 nZ fe ((⟨b3,0,none⟩:Addr).add 4) λo_=>
 nZ fe ((⟨b3,0,none⟩:Addr).add 5) λlZ=>
 nZ fe ((⟨b3,0,none⟩:Addr).add 6) λtW=>
 R (.agg #[m_,uJ,ig,rJ,o_,lZ,tW]) fe
theorem Nh (a0 dZ d_ gH gI jf jg w R) (h:V37 a0 dZ d_ gH gI jf jg w R):qE 37 #[qI a0,.agg #[qI dZ,qI d_,qI gH,.float .f64 gI,qI jf,qI jg]] w R:=qv (.s .l (.s .l (.s .l (.s (.d [0,0,2,0,8,31,63,127]) (.s .l .l))))) Tryz.func37 (by kernel_rfl) (by kernel_rfl) h
theorem amp:br qQ 37:=by kernel_rfl
def V38 (a0:qA) (w:World) (R:qR):Prop:=
 cg w [qI 0,.slice none 0 0,.slice none 0 0,qI 0] 33 λb2 w1=>
 nn a0 λp4=>
 iF w1 (p4.add 0) λx5=>
 qb 73 [.pointer x5] w1 λx6 w2=>
 bC (!x6) (
  nn a0 λp8=>
  aW .i64 w2.drew (p8.add 9) λx9=>
  gd (α:=Addr) (decide (x9 >= 0)) (λfD=>
   nn a0 λrF=>
   fD rF w2.drew) ⟨0,0,none⟩ w2.drew λdJ _=>
  gd (α:=Int) (decide (x9 >= 0)) (λgQ=>
   aW .i64 w2.drew (dJ.add 8) λdV=>
   gQ dV w2.drew) 0 w2.drew λeP _=>
  gd (α:=Addr) (decide (x9 >= 0)) (λsJ=>
   nn a0 λDi=>
   sJ Di w2.drew) ⟨0,0,none⟩ w2.drew λgh _=>
  gd (α:=Int) (decide (x9 >= 0)) (λta=>
   aW .i64 w2.drew (gh.add 9) λeX=>
   ta eX w2.drew) 0 w2.drew λj5 _=>
  bC (cond (decide (x9 >= 0)) (eP==j5) false) (
   nn a0 λLN=>
   aW .i64 w2.drew (LN.add 9) λiV=>
   qS w2.drew b2 0 (qI 3) λw3=>
   qS w3 b2 1 (.slice none 0 0) λw4=>
   qS w4 b2 2 (.slice none 0 0) λw5=>
   qS w5 b2 3 (qI iV) λw6=>
   qL w6 b2 0 λiT=>
   qC w6 b2 1 λjj AE Ci=>
   qC w6 b2 2 λiI ir jB=>
   qL w6 b2 3 λjN=>
   R (.tuple #[.agg #[qI iT,.slice jj AE Ci,.slice iI ir jB,qI jN],.bool true]) w6) (
   nn a0 λp30=>
   aW .i64 w2.drew (p30.add 8) λuJ=>
   nn a0 λp32=>
   st w2.drew ((p32.add 8).add 0) (qI (IntKind.wrap .i64 (uJ+1))) λw7=>
   qu 74 [.pointer a0] w7 λw8=>
   nn a0 λAJ=>
   iF w8 (AJ.add 0) λnh=>
   qb 75 [.pointer nh] w8 λpg w9=>
   bC pg (
    nn a0 λG_=>
    iF w9.drew (G_.add 0) λtY=>
    nn a0 λp42=>
    aW .i64 w9.drew (p42.add 8) λpL=>
    qc 76 [.pointer tY] w9.drew λj_ gM iJ cK=>
    (
     aW .i64 cK (p42.add 8) λtX=>
     ((qI tX:Value)=qI pL))/\
    qS cK b2 0 (qI 2) λdB=>
    qS dB b2 1 (.slice none 0 0) λdF=>
    qS dF b2 2 (.slice j_ gM iJ) λeA=>
    qS eA b2 3 (qI pL) λeG=>
    qL eG b2 0 λnA=>
    qC eG b2 1 λCC Qr Qs=>
    qC eG b2 2 λng uE uF=>
    qL eG b2 3 λvY=>
    R (.tuple #[.agg #[qI nA,.slice CC Qr Qs,.slice ng uE uF,qI vY],.bool true]) eG) (
    qS w9 b2 0 (qI 0) λgT=>
    qS gT b2 1 (.slice none 0 0) λeM=>
    qS eM b2 2 (.slice none 0 0) λfe=>
    qS fe b2 3 (qI 0) λgB=>
    qL gB b2 0 λxN=>
    qC gB b2 1 λAK qK sG=>
    qC gB b2 2 λvG vZ v8=>
    qL gB b2 3 λBq=>
    R (.tuple #[.agg #[qI xN,.slice AK qK sG,.slice vG vZ v8,qI Bq],.bool false]) gB))) (
  nn a0 λp57=>
  iF w2 (p57.add 0) λBr=>
  cl Tryz.prog 77 [.pointer Br] w2 λe61 fV=>∃(xl:qA) (AQ CD:Nat),∃vH:Bool,e61=Ending.returned (.tuple #[.slice xl AQ CD,.bool vH])/\
  bC vH (
   nn a0 λp64=>
   aW .i64 fV (p64.add 8) λBs=>
   qS fV b2 0 (qI 1) λnF=>
   qS nF b2 1 (.slice xl AQ CD) λog=>
   qS og b2 2 (.slice none 0 0) λxh=>
   qS xh b2 3 (qI Bs) λmV=>
   qL mV b2 0 λv_=>
   qC mV b2 1 λDk L9 L_=>
   qC mV b2 2 λpU xQ xR=>
   qL mV b2 3 λxS=>
   R (.tuple #[.agg #[qI v_,.slice Dk L9 L_,.slice pU xQ xR,qI xS],.bool true]) mV) (
   nn a0 λp71=>
   nZ fV ((p71.add 1).add 1) λJU=>
   wS Tryz.prog (JU) [] fV λe74 nG=>∃UU:Bool,e74=Ending.returned (.bool UU)/\
   bC UU (
    qu 78 [.pointer a0] nG λjq=>
    qS jq b2 0 (qI 0) λza=>
    qS za b2 1 (.slice none 0 0) λEo=>
    qS Eo b2 2 (.slice none 0 0) λJP=>
    qS JP b2 3 (qI 0) λEp=>
    qL Ep b2 0 λTc=>
    qC Ep b2 1 λEF AN AO=>
    qC Ep b2 2 λS_ Hx Hy=>
    qL Ep b2 3 λUQ=>
    R (.tuple #[.agg #[qI Tc,.slice EF AN AO,.slice S_ Hx Hy,qI UQ],.bool false]) Ep) (
    qu 79 [.pointer a0] nG λxg=>
    qS xg b2 0 (qI 0) λyp=>
    qS yp b2 1 (.slice none 0 0) λEr=>
    qS Er b2 2 (.slice none 0 0) λJQ=>
    qS JQ b2 3 (qI 0) λEt=>
    qL Et b2 0 λTg=>
    qC Et b2 1 λTh EJ EK=>
    qC Et b2 2 λXh abW abX=>
    qL Et b2 3 λDm=>
    R (.tuple #[.agg #[qI Tg,.slice Th EJ EK,.slice Xh abW abX,qI Dm],.bool false]) Et)))
theorem Ni (a0 w R) (h:V38 a0 w R):qE 38 #[.pointer a0] w R:=qv (.s .l (.s (.s .l (.c (.s (.s (.d [0,1,3,7,15,31,63,127,255,511,63,1087,3135,7231,16383,32767]) (.c (.s .l .l) .l)) (.s .l (.s .l (.s (.s .l (.c (.s (.d [0,1,3,7,15,0,32,96,224,511,1023,2047]) .l) .l)) (.s .l .l))))) .l)) (.s (.s .l (.s .l (.c (.s .l .l) .l))) (.s (.s .l (.c (.s .l (.s .l .l)) .l)) (.s .l (.s .l .l)))))) Tryz.func38 (by kernel_rfl) (by kernel_rfl) h
theorem amq:br qQ 38:=by kernel_rfl
def V74 (a0:qA) (w:World) (R:qR):Prop:=
 nn a0 λp2=>
 iF w (p2.add 0) λx3=>
 qc 113 [.pointer x3] w λx4 lQ sy w1=>
 nn a0 λp7=>
 iF w1 (p7.add 0) λx8=>
 cl Tryz.prog 114 [.pointer x8] w1 λe12 w2=>∃(x9:qA) (yg Bm:Nat),∃dR:Int,∃fh:Int,e12=Ending.returned (.tuple #[.slice x9 yg Bm,qI dR,qI fh])/\
 nn a0 λCd=>
 iF w2 (Cd.add 0) λeP=>
 qb 75 [.pointer eP] w2 λfk w3=>
 bC fk (
  R (.tuple #[]) w3) (
  nn a0 λN6=>
  nZ w3.drew ((N6.add 1).add 6) λic=>
  nn a0 λJz=>
  iF w3.drew (Jz.add 0) λj5=>
  qc 113 [.pointer j5] w3.drew λiU xL Ce w4=>
  (
   nZ w4 ((N6.add 1).add 6) λiV=>
   ((iV:Value)=ic))/\
  wS Tryz.prog (ic) [.slice x4 lQ sy,qI (IntKind.wrap .i64 ((xL:Int) - 1))] w4 λe25 w5=>e25=Ending.returned (.tuple #[])/\
  nn a0 λp27=>
  nZ w5 ((p27.add 1).add 5) λjN=>
  wS Tryz.prog (jN) [.slice x9 yg Bm] w5 λe29 w6=>e29=Ending.returned (.tuple #[])/\
  nn a0 λLy=>
  nZ w6 ((Ly.add 1).add 0) λig=>
  wS Tryz.prog (ig) [] w6 λe33 w7=>e33=Ending.returned (.tuple #[])/\
  R (.tuple #[]) w7)
theorem Nj (a0 w R) (h:V74 a0 w R):qE 74 #[.pointer a0] w R:=qv (.s .l (.s .l (.s (.s .l (.c .l .l)) (.s (.d [0,1,3,7,15,0,0,64,192,448,960,1984,4032,8191]) (.s .l .l))))) Tryz.func74 (by kernel_rfl) (by kernel_rfl) h
theorem amr:br qQ 74:=by kernel_rfl
def V78 (a0:qA) (w:World) (R:qR):Prop:=
 nn a0 λp2=>
 iF w (p2.add 0) λx3=>
 qc 113 [.pointer x3] w λx4 lQ sy w1=>
 nn a0 λp7=>
 iF w1 (p7.add 0) λx8=>
 qi 116 [.pointer x8] w1 λx9 w2=>
 nn a0 λrF=>
 nZ w2.drew ((rF.add 1).add 6) λdJ=>
 nn a0 λrG=>
 iF w2.drew (rG.add 0) λdV=>
 qc 113 [.pointer dV] w2.drew λeP nK uH w3=>
 (
  nZ w3 ((rF.add 1).add 6) λfL=>
  ((fL:Value)=dJ))/\
 wS Tryz.prog (dJ) [.slice x4 lQ sy,qI (nK:Int)] w3 λe18 w4=>e18=Ending.returned (.tuple #[])/\
 nn a0 λJz=>
 nZ w4 ((Jz.add 1).add 2) λj5=>
 wS Tryz.prog (j5) [] w4 λe23 w5=>∃iU:Bool,e23=Ending.returned (.bool iU)/\
 gd (α:=Addr) iU (λoA=>
  nn a0 λJC=>
  oA JC w5) ⟨0,0,none⟩ w5 λjj w6=>
 gd (α:=(qA)) iU (λQJ=>
  iF w6 (jj.add 0) λjN=>
  QJ jN w6) none w6 λjo w7=>
 gd (α:=Bool) iU (λKf=>
  qb 73 [.pointer jo] w7 λuJ w8=>
  Kf uJ w8) false w7 λrJ w9=>
 bC (cond iU rJ false) (
  qu 117 [.pointer a0] w9 λcK=>
  R (.tuple #[]) cK) (
  R (.tuple #[]) w9)
theorem Nk (a0 w R) (h:V78 a0 w R):qE 78 #[.pointer a0] w R:=qv (.s .l (.s .l (.s (.d [0,1,3,7,15,0,0,64,192,448,960,1984,4095]) (.s .l (.c .l .l))))) Tryz.func78 (by kernel_rfl) (by kernel_rfl) h
theorem ams:br qQ 78:=by kernel_rfl
def V79 (a0:qA) (w:World) (R:qR):Prop:=
 lp (σ:=Unit) (λs2 w1 k1=>match s2 with
  | (_)=>
  nn a0 λp4=>
  nZ w1 ((p4.add 1).add 3) λx5=>
  wS Tryz.prog (x5) [] w1 λe8 w2=>∃x6:Int,∃x7:Bool,e8=Ending.returned (.tuple #[.int .i64 x6,.bool x7])/\
  gd (α:=Addr) (!(!x7)) (λk9=>
   nn a0 λxJ=>
   k9 xJ (World.drew w2)) ⟨0,0,none⟩ (World.drew w2) λfh _=>
  gd (α:=(Option Addr)) (!(!x7)) (λfF=>
   iF (World.drew w2) (fh.add 0) λeV=>
   fF eV (World.drew w2)) none (World.drew w2) λdV _=>
  gd (α:=Addr) (!(!x7)) (λAM=>
   nn a0 λCc=>
   AM Cc (World.drew w2)) ⟨0,0,none⟩ (World.drew w2) λfL _=>
  gd (α:=Value) (!(!x7)) (λt_=>
   nZ (World.drew w2) ((fL.add 1).add 4) λic=>
   t_ ic (World.drew w2)) undef (World.drew w2) λeX _=>
  gd (α:=Int) (!(!x7)) (λF6=>
   wS Tryz.prog (eX) [.int .i64 x6] (World.drew w2) λe23 w3=>∃iU:Int,e23=Ending.returned (.int .i64 iU)/\
   F6 iU w3) 0 (World.drew w2) λiV w4=>
  ((!(!x7))=true->
   iF w4 (fh.add 0) λiT=>
   ((.pointer iT:Value)=.pointer dV))/\
  gd (α:=Int) (!(!x7)) (λuW=>
   cl Tryz.prog 118 [.pointer dV,.int .i64 iV] w4 λe28 w5=>∃iI:Int,e28=Ending.returned (.int .i64 iI)/\
   uW iI w5) 0 w4 λjo w6=>
  bC (cond (!x7) true (jo==0)) (
   R (.tuple #[]) w6) (
   k1 (()) w6)) (()) w
theorem Nl (a0 w R) (h:V79 a0 w R):qE 79 #[.pointer a0] w R:=qv (.b (.o [] (.b (.s .l (.s (.d [0,1,3,7,15,31,63,7,135,391,903,1927,7,8071,16383,32767,65535]) (.c .l .l)))))) Tryz.func79 (by kernel_rfl) (by kernel_rfl) h
theorem amt:br qQ 79:=by kernel_rfl
def ag6 (a0:qA) (w:World) (R:qR):Prop:=
 nn a0 λp2=>
 iF w (p2.add 0) λx3=>
 cl Tryz.prog 147 [.pointer x3] w λe5 w1=>∃(x4:Option Addr) (lQ sy:Nat),e5=Ending.returned (.slice x4 lQ sy)/\
 lp (σ:=Int×Unit) (λs9 w2 k8=>match s9 with
  | (v7,_)=>
  bC (decide (v7 >= 0)) (
   jn (σ:=Unit) (λgF=>
    cr x4 lQ v7 1 λCd=>
    aZ w2 Cd λeP nK uH=>
    bC (decide ((nK:Int)>2)) (
     nn a0 λDi=>
     iF w2 (Di.add 0) λgh=>
     cl Tryz.prog 148 [.pointer gh,.int .i64 v7] w2 λe20 w4=>∃ic:Int,e20=Ending.returned (.int .i64 ic)/\
     gF (()) w4) (
     gF (()) w2)) λN8 w3=>match N8 with
   | (_)=>
   k8 ((IntKind.wrap .i64 (v7 - 1)),()) w3) (
   R (.tuple #[]) w2)) ((IntKind.wrap .i64 ((IntKind.wrap .i64 (Int.tdiv (lQ:Int) 2)) - 1)),()) w1
theorem Jd (a0 w R) (h:ag6 a0 w R):qE 117 #[.pointer a0] w R:=qv (.s .l (.s .l (.b (.o [(3,.one (.int .i64))] (.s (.s .l (.c .l .l)) (.s (.j [] (.b (.s .l (.c .l .l)))) .l)))))) Tryz.func117 (by kernel_rfl) (by kernel_rfl) h
theorem ag7:br qQ 117:=by kernel_rfl
def V69 (a0:qA) (w:World) (R:qR):Prop:=
 nn a0 λp3=>
 iF w (p3.add 0) λx4=>
 cl Tryz.prog 106 [.pointer x4] w λe7 w1=>∃x5:Int,∃x6:Bool,e7=Ending.returned (.tuple #[qI x5,.bool x6])/\
 R (.tuple #[qI x5,.bool x6]) w1
theorem No (a0 w R) (h:V69 a0 w R):qE 69 #[.pointer a0] w R:=qv (.s .l (.s .l .l)) Tryz.func69 (by kernel_rfl) (by kernel_rfl) h
theorem amu:br qQ 69:=by kernel_rfl
def V70 (a0:qA) (a1:Int) (w:World) (R:qR):Prop:=
 nn a0 λp3=>
 aW .i64 w (p3.add 1) λx4=>
 gd (α:=Addr) (!(x4==2)) (λk5=>
  nn a0 λp6=>
  k5 p6 w) ⟨0,0,none⟩ w λx7 w1=>
 gd (α:=Int) (!(x4==2)) (λk8=>
  aW .i64 w1 (x7.add 1) λx9=>
  k8 x9 w1) 0 w1 λdR w2=>
 gd (α:=Addr) ((!(x4==2))&&(dR==3)) (λgF=>
  nn a0 λsU=>
  gF sU w2) ⟨0,0,none⟩ w2 λeV w3=>
 gd (α:=(qA×Nat×Nat)) ((!(x4==2))&&(dR==3)) (λlq=>
  aZ w3 (eV.add 2) λeP nK uH=>
  lq (eP,nK,uH) w3) (none,0,0) w3 λfk w4=>
 gd (α:=Addr) ((!(x4==2))&&(dR==3)) (λkz=>
  cr fk.1 fk.2.1 (IntKind.wrap .i64 (a1 - 1)) 1 λN6=>
  kz N6 w4) ⟨0,0,none⟩ w4 λic w5=>
 gd (α:=Bool) ((!(x4==2))&&(dR==3)) (λk20=>
  Aj w5 ic λj5=>
  k20 j5 w5) false w5 λiU w6=>
 bC (cond (x4==2) true (cond (dR==3) iU false)) (
  R (qI a1) w6) (
  R (qI (IntKind.wrap .i64 (0 - a1))) w6)
theorem Np (a0 a1 w R) (h:V70 a0 a1 w R):qE 70 #[.pointer a0,qI a1] w R:=qv (.s .l (.s .l (.s (.s .l (.c (.s .l .l) .l)) (.s .l .l)))) Tryz.func70 (by kernel_rfl) (by kernel_rfl) h
theorem amv:br qQ 70:=by kernel_rfl
def V71 (a0:qA) (a1:qA) (dW:Nat) (fU:Nat) (w:World) (R:qR):Prop:=
 lp (σ:=Int×Unit) (λs4 w1 k3=>match s4 with
  | (v2,_)=>
  bC (decide (v2<(dW:Int))) (
   cr a1 dW v2 1 λp7=>
   aW .i64 w1 p7 λx8=>
   nn a0 λxJ=>
   iF w1 (xJ.add 0) λfh=>
   qi 107 [.pointer fh,qI (if (IntKind.wrap .i64 (0 - x8))>x8 then (IntKind.wrap .i64 (0 - x8)) else x8)] w1 λdJ w2=>
   k3 ((IntKind.wrap .i64 (v2+1)),()) w2) (
   nn a0 λCc=>
   iF w1 (Cc.add 0) λfL=>
   qu 108 [.pointer fL] w1 λw3=>
   R (.tuple #[]) w3)) (0,()) w
theorem Nq (a0 a1 dW fU w R) (h:V71 a0 a1 dW fU w R):qE 71 #[.pointer a0,.slice a1 dW fU] w R:=qv (.s (.s .l (.b (.o [(8,.one (.int .i64))] (.s .l (.s (.c .l .l) (.s (.b (.s .l .l)) .l)))))) .l) Tryz.func71 (by kernel_rfl) (by kernel_rfl) h
theorem amw:br qQ 71:=by kernel_rfl
def V72 (a0:qA) (a1:qA) (dW:Nat) (fU:Nat) (a2:Int) (w:World) (R:qR):Prop:=
 (0:Int)<=a2/\a2<=(dW:Int)/\
 lp (σ:=Int×Unit) (λs4 w1 k3=>match s4 with
  | (v2,_)=>
  bC (decide (v2<(((dW - (Int.toNat a2)):Nat):Int))) (
   cr (jZ a1 fU (Int.toNat a2) 3) (dW - (Int.toNat a2)) v2 3 λp7=>
   aW .i64 w1 (p7.add 0) λx8=>
   aW .i64 w1 (p7.add 1) λx9=>
   aZ w1 (p7.add 2) λdR iS mO=>
   cg w1 [qI 0,qI 0,.slice none 0 0] 175 λqt w2=>
   st w2 ((⟨qt,0,none⟩:Addr).add 0) (qI x8) λw3=>
   st w3 ((⟨qt,0,none⟩:Addr).add 1) (qI x9) λw4=>
   st w4 ((⟨qt,0,none⟩:Addr).add 2) (.slice dR iS mO) λw5=>
   aW .i64 w5 ((⟨qt,0,none⟩:Addr).add 0) λeV=>
   aW .i64 w5 ((⟨qt,0,none⟩:Addr).add 0) λdV=>
   nn a0 λqs=>
   aZ w5.drew (qs.add 2) λfk k_ sA=>
   aW .i64 w5.drew ((⟨qt,0,none⟩:Addr).add 0) λfL=>
   cr fk k_ (IntKind.wrap .i64 ((if (IntKind.wrap .i64 (0 - dV))>eV then (IntKind.wrap .i64 (0 - dV)) else eV) - 1)) 1 λN6=>
   st w5.drew (N6.add 0) (.bool (decide (fL>0))) λw6=>
   nn a0 λJz=>
   iF w6 (Jz.add 0) λj5=>
   qi 109 [.pointer j5,qI (if (IntKind.wrap .i64 (0 - dV))>eV then (IntKind.wrap .i64 (0 - dV)) else eV)] w6 λiU w7=>
   k3 ((IntKind.wrap .i64 (v2+1)),()) w7) (
   R (.tuple #[]) w1)) (0,()) w
theorem Nr (a0 a1 dW fU a2 w R) (h:V72 a0 a1 dW fU a2 w R):qE 72 #[.pointer a0,.slice a1 dW fU,qI a2] w R:=qv (.s .l (.b (.o [(13,.one (.int .i64))] (.s .l (.s (.c .l .l) (.s (.b (.s .l (.s .l (.s (.d [0,1,3,7,0,16,0,64,192,511,1023]) .l)))) .l)))))) Tryz.func72 (by kernel_rfl) (by kernel_rfl) h
theorem ag8:br qQ 72:=by kernel_rfl
end T
namespace cS
open Go Vc T
def Made (c:Bool) (bs f g:Int) (w:World) (v:Value) (w':World):Prop:=af aq w w'/\
 ((c=false/\v=.tuple #[.agg #[.nilFunc,.nilFunc,.nilFunc],I 1])\/
  (c=true/\∃A:BQ,w.heap.size<=A.f/\A.ok w'.heap.size/\v=.tuple #[.agg #[fc A,fr A,fl A],I 0]/\l_ w' A bs f g 0 0 0 1 0))
theorem Je (b f g:Int) (d:Nat) (p q:Int) (w:World) :
  Calls Tryz.prog 68 #[.agg #[I b,I f,I g,F d,I p,I q]] w λe w'=>∃v,e=.returned v/\Made (formed b f g d p) b f g w v w':=by
 refine Na b f g d p q w (Made (formed b f g d p) b f g w) ?_;unfold V68;refine aD λb2 w1 rN hC k1=>?_;refine aD λb3 w2 R7 hO k2=>?_;simp only [ag,Nat.zero_add,Nat.add_zero];have l1:=hC.lt;have z1:=k1.size;have z2:=k2.size
 replace hC:=hC.aa k2
 have hK:=k1.ak k2;refine ah (hC.cell 0) (ah (hC.cell 1) (ah (hC.cell 2) (dY (hC.cell 3) (ah (hC.cell 4) (ah (hC.cell 5) ?_)))));refine az agS (Ab b f g d p q w2) λe w3 ⟨he,k3⟩=>⟨_,he,?_⟩
 replace hK:=hK.ak k3
 replace hC:=hC.aa k3
 replace hO:=hO.aa k3
 have z3:=k3.size;have l2:=hO.lt;rcases Bool.eq_false_or_eq_true (formed b f g d p) with hf | hf
 ·rw [hf];refine aT rfl ?_;refine aD λTw w7 ao3 Om k7=>?_;have l7:=Om.lt;have z7:=k7.size;refine aD λEB w8 alo Gl k8=>?_;have l8:=Gl.lt;have z8:=k8.size;refine aD λW7 w9 ao4 XX k9=>?_;have l9:=XX.lt;have z9:=k9.size
  replace Om:=(Om.aa k8).aa k9
  replace Gl:=Gl.aa k9
  replace hC:=((hC.aa k7).aa k8).aa k9
  replace hO:=((hO.aa k7).aa k8).aa k9
  replace hK:=((hK.ak k7).ak k8).ak k9
  refine aG Om (by simp) rfl λcK Om fD e10=>?_;refine aG (Gl.aJ fD (by omega)) (by simp) rfl λdB Gl gF e11=>?_;refine aG ((XX.aJ fD (by omega)).aJ gF (by omega)) (by simp) rfl λdF XX fF e12=>?_
  replace Om:=(Om.aJ gF (by omega)).aJ fF (by omega)
  replace Gl:=Gl.aJ fF (by omega)
  replace hC:=((hC.aJ fD (by omega)).aJ gF (by omega)).aJ fF (by omega)
  replace hO:=((hO.aJ fD (by omega)).aJ gF (by omega)).aJ fF (by omega)
  replace hK:=((hK.bw fD (by omega)).bw gF (by omega)).bw fF (by omega)
  refine aD λUe eA ao5 Ns gQ=>?_;have l13:=Ns.lt;have z13:=gQ.size;refine aD λYz eG ao6 Oh lq=>?_;have l14:=Oh.lt;have z14:=lq.size
  replace Om:=(Om.aa gQ).aa lq
  replace Gl:=(Gl.aa gQ).aa lq
  replace XX:=(XX.aa gQ).aa lq
  replace Ns:=Ns.aa lq
  replace hC:=(hC.aa gQ).aa lq
  replace hO:=(hO.aa gQ).aa lq
  replace hK:=(hK.ak gQ).ak lq
  refine aG Ns (by simp) rfl λgT Ns AM e15=>?_;refine aG (Oh.aJ AM (by omega)) (by simp) rfl λeM Oh sJ e16=>?_;refine ⟨⟨rfl,rfl,rfl,trivial⟩,?_⟩;refine aG ((hO.aJ AM (by omega)).aJ sJ (by omega)) (by simp) rfl λfe hO kz e17=>?_;refine aG hO (by simp) rfl λgB hO t_ e18=>?_;refine aG hO (by simp) rfl λfV hO ta e19=>?_;refine cT (hO.cell 0) (cT (hO.cell 1) (cT (hO.cell 2) ?_))
  replace hK:=((((hK.bw AM (by omega)).bw sJ (by omega)).bw kz (by omega)).bw t_ (by omega)).bw ta (by omega)
  have kk:∀{bb:Nat} {cs:List Value} {t:TypeId},bb≠Ue->bb≠Yz->bb≠b3->b_ eG bb cs t->b_ fV bb cs t:=λh1 h2 h3 h=>
   ((((h.aJ AM h1).aJ sJ h2).aJ kz h3).aJ t_ h3).aJ ta h3
  have Qy:∀{bb:Nat} {cs:List Value} {t:TypeId},bb≠Yz->bb≠b3->b_ gT bb cs t->b_ fV bb cs t:=λh2 h3 h=>
   (((h.aJ sJ h2).aJ kz h3).aJ t_ h3).aJ ta h3
  have kk3:∀{bb:Nat} {cs:List Value} {t:TypeId},bb≠b3->b_ eM bb cs t->b_ fV bb cs t:=λh3 h=>
   ((h.aJ kz h3).aJ t_ h3).aJ ta h3
  refine ⟨hK,Or.inr ⟨rfl,⟨b2,Tw,EB,W7,Ue,Yz⟩,by show w.heap.size<=b2; omega,?_,rfl,?_⟩⟩
  ·unfold BQ.ok; dsimp only; omega
  ·have g1:=kk (bb:=Tw) (by omega) (by omega) (by omega) Om;have g2:=kk (bb:=EB) (by omega) (by omega) (by omega) Gl;have g3:=kk (bb:=W7) (by omega) (by omega) (by omega) XX;have g4:=Qy (bb:=Ue) (by omega) (by omega) Ns;have g5:=kk3 (bb:=Yz) (by omega) Oh;have g6:=kk (bb:=b2) (by omega) (by omega) (by omega) hC;exact ⟨g1,g2,g3,g4,g5,d,p,q,g6⟩
 ·rw [hf];refine aX rfl ?_;refine ⟨trivial,?_⟩;refine aG hO (by simp) rfl λw4 hO k4 _=>?_;refine aG hO (by simp) rfl λw5 hO k5 _=>?_;refine aG hO (by simp) rfl λw6 hO k6 _=>?_;refine cT (hO.cell 0) (cT (hO.cell 1) (cT (hO.cell 2) ?_));exact ⟨((hK.bw k4 (by omega)).bw k5 (by omega)).bw k6 (by omega),Or.inl ⟨rfl,rfl⟩⟩
end cS
namespace eR
open Go Vc T
open N_ (g)
theorem Nt:∃m e,Fl.d64.read 4602678819172646912=.number false m e/\m≠0:=by
 refine ⟨_,_,Fl.h_ (by decide),?_⟩;decide +kernel
theorem Sd:∃m e,Fl.d64.read 4607182418800017408=.number false m e:=⟨_,_,Fl.h_ (by decide)⟩
theorem FQ {n:Int} {d:Nat} (h:rj n d=true):0<=n/\n<=1048576/\∃m e,Fl.d64.read d=.number false m e/\m≠0:=by
 unfold rj at h;simp only [Bool.and_eq_true,decide_eq_true_eq] at h;obtain ⟨⟨h1,h2⟩,h3,h4⟩:=h;refine ⟨h1,h2,?_⟩;obtain ⟨mh,eh,hh,hm⟩:=Nt;obtain ⟨mo,eo,ho⟩:=Sd;have o1:Fl.d64.order d 4602678819172646912=(Fl.d64.read d).order (.number false mh eh):=by rw [<-hh]; rfl
 have o2:Fl.d64.order d 4607182418800017408=(Fl.d64.read d).order (.number false mo eo):=by rw [<-ho]; rfl
 change ((Fl.d64.order d 4602678819172646912==some .gt || Fl.d64.order d 4602678819172646912==some .eq)=true) at h3;change ((Fl.d64.order d 4607182418800017408==some .lt || Fl.d64.order d 4607182418800017408==some .eq)=true) at h4;rw [o1] at h3;rw [o2] at h4;cases hr:Fl.d64.read d with
 | nan s f=>rw [hr] at h3; exact absurd h3 (by simp [Ieee.Datum.order])
 | infinity s=>
  rw [hr] at h3 h4;cases s
  ·exact absurd h4 (by simp [Ieee.Datum.order])
  ·exact absurd h3 (by simp [Ieee.Datum.order])
 | number s m e=>
  rw [hr] at h3;simp only [Ieee.Datum.order] at h3;have hp:0<mh <<< (eh - min e eh).toNat:=by rw [Nat.shiftLeft_eq]; exact Nat.mul_pos (Nat.pos_of_ne_zero hm) (Nat.two_pow_pos _)
  have YC:∀{a:Int},a<=0->compare a ((mh <<< (eh - min e eh).toNat:Nat):Int)=.lt:=λha=>Int.compare_eq_lt.2 (by omega);cases s with
  | true=>
   have:compare (Ieee.signed true m (e - min e eh).toNat) (Ieee.signed false mh (eh - min e eh).toNat)=.lt:=YC (by have:=Int.natCast_nonneg (m <<< (e - min e eh).toNat); unfold Ieee.signed; rw [if_pos rfl]; omega);rw [this] at h3;exact absurd h3 (by decide)
  | false=>
   refine ⟨m,e,rfl,λh0=>?_⟩;have:compare (Ieee.signed false m (e - min e eh).toNat) (Ieee.signed false mh (eh - min e eh).toNat)=.lt:=YC (by simp [Ieee.signed,h0]);rw [this] at h3;exact absurd h3 (by decide)
theorem one_le:one<=Fl.iK:=by decide
def HI.jH (Q:HI) (w:World):Prop:=∀i,Q.F i->w.heap.size<=i
theorem made {n:Nat} {d:Nat} {w w':World} {v:Value} (h:AF n d w v w') (hf:rj n d=true) :
  ∃Q:HI,v=.tuple #[.pointer (some ⟨Q.h,0,none⟩),I 0]/\af aq w w'/\Q.jH w/\PH n w' Q (List.replicate n 0) one d (List.replicate n true):=by
 obtain ⟨k,h⟩:=h;rcases h with ⟨GI,_⟩ | ⟨_,h,sb,ib,pb,g1,g2,g3,g4,rfl,hR⟩
 ·rw [hf] at GI; cases GI
 obtain ⟨_,n2,hd⟩:=FQ hf;rw [Int.toNat_natCast] at hR;have at1:∀{i:Nat} {y:Int},((List.range n).map λk:Nat=>(k:Int)+1)[i]?=some y->i<n/\y=(i:Int)+1:=λ{i y} hy=>by
  have hi:=(List.getElem?_eq_some_iff.1 hy).1;simp only [List.length_map,List.length_range] at hi;refine ⟨hi,?_⟩;simp [hi] at hy;exact hy.symm
 have wfr:Wf n (List.replicate n 0) one d (List.replicate n true):=⟨by simp,by simp,by omega,λx hx=>by rw [(List.mem_replicate.1 hx).2]; exact Nat.zero_le _,one_le,hd⟩
 refine ⟨⟨h,sb,ib,pb⟩,rfl,k,λi hi=>by rcases hi with rfl | rfl | rfl | rfl<;>assumption,(List.range n).map λk:Nat=>(k:Int)+1,[],(List.range n).map λk:Nat=>(k:Int),hR,⟨by simp,λi y hy=>?_,λy y1 y2 dO=>?_⟩,?_,by simp,λv v1 v2=>?_,wfr⟩
 ·obtain ⟨hi,rfl⟩:=at1 hy;refine ⟨by omega,by omega,?_⟩;rw [show ((i:Int)+1 - 1).toNat=i by omega];simp [hi]
 ·refine absurd ?_ (dO (y - 1).toNat);have:(y - 1).toNat<n:=by omega
  rw [List.getElem?_map,List.getElem?_range this,Option.map_some];congr 1;omega
 ·intro k k1 k2;simp only [List.length_map,List.length_range] at k2;have gv:∀{j:Nat},j<n->g ((List.range n).map λk:Nat=>(k:Int)+1) j=(j:Int)+1:=λ{j} hj=>by
   refine Wh ?_;simp [hj]
  have zz:∀j:Nat,(List.replicate n (0:Nat)).getD j 0=0:=λj=>by
   rw [List.getD_eq_getElem?_getD,List.getElem?_replicate]; split<;>rfl
  rw [gv k2,gv (show (k - 1) / 2<n by omega)];cases hq:jK (List.replicate n 0) ((k:Int)+1) (((k - 1) / 2:Nat)+1) with
  | false=>rfl
  | true=>
   have:=(jL wfr.nn wfr.Am (by omega) (by omega)).1 hq;rw [zz,zz] at this;omega
 ·constructor
  ·intro _;unfold gZ;rw [List.getD_eq_getElem?_getD,List.getElem?_replicate,if_pos (by omega)]; rfl
  ·intro _;refine List.mem_iff_getElem?.2 ⟨(v - 1).toNat,?_⟩;have:(v - 1).toNat<n:=by omega
   rw [List.getElem?_map,List.getElem?_range this,Option.map_some];congr 1;omega
end eR
namespace T
open Go Vc
def ag9 (a0:qA) (w:World) (R:qR):Prop:=
 nn a0 λp3=>
 Aj w (p3.add 10) λx4=>
 gd (α:=Addr) (!x4) (λk5=>
  nn a0 λp6=>
  k5 p6 w) ⟨0,0,none⟩ w λx7 w1=>
 gd (α:=Bool) (!x4) (λk8=>
  Aj w1 (x7.add 11) λx9=>
  k8 x9 w1) false w1 λdR w2=>
 bC (cond x4 true dR) (
  R (qI 3) w2) (
  qu 145 [.pointer a0,qI 0] w2 λw3=>
  nn a0 λqs=>
  st w3 ((qs.add 9).add 0) (.bool false) λw4=>
  R (qI 0) w4)
theorem Jf (a0 w R) (h:ag9 a0 w R):qE 116 #[.pointer a0] w R:=qv (.s .l (.s (.s .l (.c (.s .l .l) .l)) (.s .l (.s .l (.s .l .l))))) Tryz.func116 (by kernel_rfl) (by kernel_rfl) h
theorem aha:br qQ 116:=by kernel_rfl
def V76 (a0:qA) (w:World) (R:qR):Prop:=
 nn a0 λp3=>
 nZ w (p3.add 7) λx4=>
 Za Tryz.prog (x4) "depot/engine.all" [] w fun e6 w1 => ∃ (x5 : qA) (sS yU : Nat), e6 = Ending.returned (.slice x5 sS yU) ∧
 R (.slice x5 sS yU) w1
theorem Nu (a0 w R) (h:V76 a0 w R):qE 76 #[.pointer a0] w R:=qv (.s .l (.s .l .l)) Tryz.func76 (by kernel_rfl) (by kernel_rfl) h
theorem amx:br qQ 76:=by kernel_rfl
def ahb (a0:qA) (w:World) (R:qR):Prop:=
 nn a0 λp4=>
 aZ w (p4.add 0) λx5 sS yU=>
 lp (σ:=(qA×Nat×Nat)×Int×Unit) (λs9 w1 k8=>match s9 with
  | ((v6,XB,XC),v7,_)=>
  bC (decide (v7<(sS:Int))) (
   cr x5 sS v7 2 λsU=>
   Aj w1 (sU.add 0) λeV=>
   aZ w1 (sU.add 1) λdV fM gU=>
   cg w1 [.bool false,.slice none 0 0] 99 λYD w2=>
   st w2 ((⟨YD,0,none⟩:Addr).add 0) (.bool eV) λw3=>
   st w3 ((⟨YD,0,none⟩:Addr).add 1) (.slice dV fM gU) λw4=>
   Aj w4.drew ((⟨YD,0,none⟩:Addr).add 0) λfk=>
   aZ w4.drew ((⟨YD,0,none⟩:Addr).add 1) λfL lY pJ=>
   qc 142 [.slice fL lY pJ] w4.drew λgh LZ Ct w5=>
   (
    Aj w5 ((⟨YD,0,none⟩:Addr).add 0) λeX=>
    ((.bool eX:Value)=.bool fk))/\
   cg w5 [.bool fk,.slice gh LZ Ct] 99 λGb w6=>
   qp 31 #[.slice v6 XB XC,.slice (some (⟨Gb,0,none⟩:Addr)) 1 1] w6 λiU xL Ce w7=>
   k8 ((iU,xL,Ce),(IntKind.wrap .i64 (v7+1)),()) w7) (
   R (.slice v6 XB XC) w1)) ((none,0,0),0,()) w
theorem Jg (a0 w R) (h:ahb a0 w R):qE 229 #[.pointer a0] w R:=qv (.s .l (.s .l (.s (.s .l (.b (.o [(3,.one (.x_)),(11,.one (.int .i64))] (.s .l (.s (.c .l .l) (.s (.b (.s .l (.d [0,0,2,0,8,24,62,126,255,511]))) .l)))))) (.s .l .l)))) Tryz.func229 (by kernel_rfl) (by kernel_rfl) h
theorem ahc:br qQ 229:=by kernel_rfl
end T
namespace bp
open Go Vc T
open bt (cQ aL aA bg aO Sl sv mE LL)
open mT (words)
open bU (En mF)
theorem Nv {w:World} {b:Nat} {o:Nat->Int} {h:Hs} {S:ES} (hR:Rp dU w b o h S) :
  Calls Tryz.prog 116 #[Pt b] w λe w'=>e=.returned (I (aR S).1)/\Nx cA dU w b o h (aR S).2 w':=by
 refine (Jf (some ⟨b,0,none⟩) w (λv w'=>v=I (aR S).1/\Nx cA dU w b o h (aR S).2 w') ?_).mono λe w' ⟨v,he,hv,hk⟩=>⟨by rw [he,hv],hk⟩
 unfold ag9;refine ay (dX (x:=S.aQ) (by rw [ag]; exact hR.self.cell 10) ?_);by_cases EP:(S.aQ || S.dead)=true
 ·have es:aR S=(3,S):=by unfold aR; rw [if_pos EP]
  rw [es];cases hc:S.aQ with
  | true=>exact a_ rfl (a_ rfl (aX rfl ⟨rfl,Nx.refl hR⟩))
  | false=>
   have hd:S.dead=true:=by rw [hc] at EP; simpa using EP
   exact aS rfl (ay (aS rfl (dX (x:=S.dead) (by rw [ag]; exact hR.self.cell 11) (aX (by rw [hd]; rfl) ⟨rfl,Nx.refl hR⟩))))
 have hc:S.aQ=false:=by cases hc:S.aQ with
  | true=>rw [hc] at EP; exact absurd rfl EP
  | false=>rfl
 have hd:S.dead=false:=by cases hd:S.dead with
  | true=>rw [hc,hd] at EP; exact absurd rfl EP
  | false=>rfl
 have es:aR S=(0,{fE S 0 with rest:=false}):=by unfold aR; rw [if_neg EP]
 rw [es,hc];refine aS rfl (ay (aS rfl (dX (x:=S.dead) (by rw [ag]; exact hR.self.cell 11) (aT (by rw [hd]; rfl) ?_))));refine az XD (XO hR (k:=0) (by omega) (by omega)) λe w3 ⟨he,hN⟩=>⟨he,ay ?_⟩
 rw [ag,ag];obtain ⟨o1,h1,r1,a1,k1,e1⟩:=hN;refine aG r1.self (by simp) rfl λw4 gJ k4 z4=>⟨rfl,?_⟩
 have hk4:af (λi=>cA (o1 i)) w3 w4:=k4.mono λj _ hj=>by
  rw [show j=b from hj,r1.cC]; unfold cA; decide
 have r2:=r1.rK (hd:=(fE S 0).head) (r:=false) (c:=(fE S 0).aQ) (d:=(fE S 0).dead) (x:=(fE S 0).bad) k4 gJ z4;have Cn:af (λi=>cA (o i)) w w3:=k1.mono λj _ hj=>wo hj;have kk:af (λi=>cA (o i)) w w4:=JV Cn a1 hk4;exact ⟨o1,h1,r2,a1,kk,e1⟩
section
variable {M M':Nat->Prop} {w w':World} {b:Nat} {av:List (List Int)} {A B A' B':Nat} {S S':ES}
theorem mK (h:Ge M w b av A B S) (hB:B<=8796093022208):Calls Tryz.prog 113 #[Pt b] w λe w'=>∃p c,(cB S).length<=c/\e=.returned (.slice p (cB S).length c)/\mF w' p (cB S).length (cB S)/\(∀i,ob p i->w.heap.size<=i)/\af aq w w':=by
 obtain ⟨o,hs,hR,ho⟩:=h.rp;exact zp hR (by have:=h.sz.w; omega)
theorem Jh (h:Ge M w b av A B S):Calls Tryz.prog 116 #[Pt b] w λe w'=>e=.returned (I (aR S).1)/\∃M',Af M w b av A B (aR S).2 M' w':=by
 obtain ⟨o,hs,hR,ho⟩:=h.rp;exact (Nv hR).mono λe w' ⟨he,hN⟩=>⟨he,Ft hR ho hN h.iq.aR h.sz.aR⟩
end
end bp
namespace Sv
open Go Vc T bp
open Trail (St upto)
open eR (jv rA gZ pF Wf gY iD PH HI FH)
open cS (A4 wr BQ l_ fc fr fl dP)
open bt (cQ aL aA bg aO aB Sl sv LL)
open bU (mF En)
theorem BS:∀(l:List E) (la wb:List Bool),(cV l la wb).1.length=la.length
 | [],la,wb=>rfl
 | y :: l,la,wb=>by
  show (cV l (la.set _ _) (wb.set _ _)).1.length=_;rw [BS l,List.length_set]
structure Lay where
 b:Nat
 e:Nat
 g:Nat
 Q:HI
 A:BQ
 lb:Sl
def fT (g:Nat):Value:=.func (.func 69) #[Pt g] #[]
def fP (g:Nat):Value:=.func (.func 70) #[Pt g] #[]
def fW (g:Nat):Value:=.func (.func 71) #[Pt g] #[]
def fB (g:Nat):Value:=.func (.func 72) #[Pt g] #[]
structure Gr (t:Nat->Int) (w:World) (Y:Lay) (c:kN) (nv:Nat) (sc:List Nat) (st:Nat) (wb last:List Bool) (n r l k j:Int):Prop where
 gb:b_ w Y.g [Pt Y.Q.h,I c.ph,sv Y.lb] 138
 gO:t Y.g=2
 la:bR w 4 1 Y.lb.1 Y.lb.2.1 Y.lb.2.2 (last.map Value.bool)
 Wl:∀i,ob Y.lb.1 i->t i=3
 he:PH nv w Y.Q sc st c.d wb
 Ty:∀i,Y.Q.F i->t i=4
 pa:l_ w Y.A c.bs c.f c.g n r l k j
 Se:t Y.A.f=5/\t Y.A.c=5/\t Y.A.r=5/\t Y.A.l=5/\t Y.A.k=5/\t Y.A.j=5
 ok:Y.A.ok (Y.A.j+1)
 kl:k<9223372036854775808
section
variable {t t':Nat->Int} {w w':World} {Y:Lay} {c:kN} {nv:Nat} {sc:List Nat} {st:Nat} {wb last:List Bool} {n r l k j:Int}
theorem Gr.ax {U:Nat->Prop} (h:Gr t w Y c nv sc st wb last n r l k j) (hk:af U w w') (hU:∀i,U i->t i≠2/\t i≠3/\t i≠4/\t i≠5):Gr t w' Y c nv sc st wb last n r l k j:=by
 obtain ⟨p0,p1,p2,p3,p4,p5⟩:=h.Se;refine ⟨h.gb.ax hk λq=>(hU _ q).1 h.gO,h.gO,h.la.ax hk λi hi q=>(hU _ q).2.1 (h.Wl i hi),h.Wl,h.he.ax hk λi hi q=>(hU _ q).2.2.1 (h.Ty i hi),h.Ty,h.pa.ax hk ?_ ?_ ?_ ?_ ?_ ?_,h.Se,h.ok,h.kl⟩
 ·exact λq=>(hU _ q).2.2.2 p1
 ·exact λq=>(hU _ q).2.2.2 p2
 ·exact λq=>(hU _ q).2.2.2 p3
 ·exact λq=>(hU _ q).2.2.2 p4
 ·exact λq=>(hU _ q).2.2.2 p5
 ·exact λq=>(hU _ q).2.2.2 p0
theorem Gr.aa (h:Gr t w Y c nv sc st wb last n r l k j) (hk:af aq w w'):Gr t w' Y c nv sc st wb last n r l k j:=h.ax hk λi hi=>hi.elim
theorem Gr.own (h:Gr t w Y c nv sc st wb last n r l k j) (ht:∀i,i<w.heap.size->t' i=t i):Gr t' w Y c nv sc st wb last n r l k j:=by
 obtain ⟨p0,p1,p2,p3,p4,p5⟩:=h.Se;have Tv:=h.pa;refine ⟨h.gb,(ht _ h.gb.lt).trans h.gO,h.la,λi hi=>(ht i (h.la.lt i hi)).trans (h.Wl i hi),h.he,λi hi=>(ht i (h.he.lt i hi)).trans (h.Ty i hi),h.pa,?_,h.ok,h.kl⟩;obtain ⟨d,p,q,hf⟩:=Tv.f;exact ⟨(ht _ hf.lt).trans p0,(ht _ Tv.c.lt).trans p1,(ht _ Tv.r.lt).trans p2,(ht _ Tv.l.lt).trans p3,(ht _ Tv.k.lt).trans p4,(ht _ Tv.j.lt).trans p5⟩
theorem Gr.Sb (h:Gr t w Y c nv sc st wb last n r l k j):last.length=Y.lb.2.1:=by have:=h.la.len; simpa using this
def K34 (t:Nat->Int) (i:Nat):Prop:=t i=3\/t i=4
def K4 (t:Nat->Int) (i:Nat):Prop:=t i=4
theorem Gr.M5 (h:Gr t w Y c nv sc st wb last n r l k j) {vK:List Nat} {st':Nat} {JN:List Bool} (hk:af Y.Q.F w w') (hp:PH nv w' Y.Q vK st' c.d JN):Gr t w' Y c nv vK st' JN last n r l k j/\af (K4 t) w w':=by
 obtain ⟨p0,p1,p2,p3,p4,p5⟩:=h.Se;have ne:∀{i:Nat} {x:Int},t i=x->x≠4->¬Y.Q.F i:=λhi hx q=>hx (hi.symm.trans (h.Ty _ q));refine ⟨⟨h.gb.ax hk (ne h.gO (by decide)),h.gO,h.la.ax hk λi hi=>ne (h.Wl i hi) (by decide),h.Wl,hp,h.Ty,h.pa.ax hk (ne p1 (by decide)) (ne p2 (by decide)) (ne p3 (by decide)) (ne p4 (by decide)) (ne p5 (by decide)) (ne p0 (by decide)),h.Se,h.ok,h.kl⟩,hk.mono λi _ hi=>h.Ty i hi⟩
theorem ahd (h:Gr t w Y c nv sc st wb last n r l k j):Calls Tryz.prog 69 #[Pt Y.g] w λe w'=>
  (je nv sc wb=none/\e=.returned (.tuple #[I 0,.bool false])/\w'=w)\/∃x,je nv sc wb=some x/\rA nv wb x=true/\e=.returned (.tuple #[I x,.bool true])/\Gr t w' Y c nv sc st (wb.set (x - 1).toNat false) last n r l k j/\af (K4 t) w w':=by
 refine (No (some ⟨Y.g,0,none⟩) w (λv w'=>(je nv sc wb=none/\v=.tuple #[I 0,.bool false]/\w'=w)\/∃x,je nv sc wb=some x/\rA nv wb x=true/\v=.tuple #[I x,.bool true]/\Gr t w' Y c nv sc st (wb.set (x - 1).toNat false) last n r l k j/\af (K4 t) w w') ?_).mono λe w' ⟨v,he,hh⟩=>?_
 ·unfold V69;refine ay (cN (x:=some ⟨Y.Q.h,0,none⟩) (by rw [ag]; exact h.gb.cell 0) ?_);refine az agu h.he.take λe w1 ⟨v,he,hT⟩=>?_;rcases hT with ⟨hn,rfl,hw⟩ | ⟨x,hx,rfl,hk,hp⟩
  ·exact ⟨0,false,he,Or.inl ⟨FJ hn,rfl,hw⟩⟩
  ·obtain ⟨a,b⟩:=h.M5 hk hp;exact ⟨x,true,he,Or.inr ⟨x,xE h.he.wf hx,hx.1,rfl,a,b⟩⟩
 ·rcases hh with ⟨a,b,c⟩ | ⟨x,a,a',b,c⟩
  ·exact Or.inl ⟨a,by rw [he,b],c⟩
  ·exact Or.inr ⟨x,a,a',by rw [he,b],c⟩
theorem Sf (h:Gr t w Y c nv sc st wb last n r l k j) (dS:nv<=1048576) (hl:last.length=nv) {x:Int} (h1:1<=x) (h2:x<=nv):Calls Tryz.prog 70 #[Pt Y.g,I x] w λe w'=>e=.returned (I (gf c.ph last x))/\w'=w:=by
 refine (Np (some ⟨Y.g,0,none⟩) x w (λv w'=>v=I (gf c.ph last x)/\w'=w) ?_).mono λe w' ⟨v,he,hv,hk⟩=>⟨by rw [he,hv],hk⟩
 unfold V70;have pM:=h.Sb;have c1:w.cell? ((⟨Y.g,0,none⟩:Addr).add 1)=some (I c.ph):=by rw [ag]; exact h.gb.cell 1
 have e1:IntKind.wrap .i64 (x - 1)=(((x - 1).toNat:Nat):Int):=by rw [IntKind.wrap_i64]; omega
 have e2:IntKind.wrap .i64 (0 - x)=-x:=by rw [IntKind.wrap_i64]; omega
 rw [e1,e2];refine ay (ah c1 ?_);unfold gf;by_cases hp:c.ph=2
 ·have hd:(c.ph==2)=true:=by rw [beq_iff_eq]; exact hp
  rw [hd,if_pos (Or.inl hp)];exact a_ rfl (a_ rfl (a_ rfl (a_ rfl (a_ rfl (a_ rfl (aX rfl ⟨rfl,rfl⟩))))))
 ·have hd:(c.ph==2)=false:=by rw [beq_eq_false_iff_ne]; exact hp
  rw [hd];refine aS rfl (ay (aS rfl (ah c1 ?_)));dsimp only;by_cases Yx:c.ph=3
  ·have JJ:(c.ph==3)=true:=by rw [beq_iff_eq]; exact Yx
   rw [JJ];refine aS rfl (ay (aS rfl (au (x:=Y.lb.1) (n:=Y.lb.2.1) (c:=Y.lb.2.2) (by rw [ag]; exact h.gb.cell 2) ?_)));refine aS rfl ((C0 h.la).ix (by omega) λa y hy ha=>aS rfl (dX ha ?_));have hg:last.getD (x - 1).toNat false=y:=by rw [List.getD_eq_getElem?_getD,hy]; rfl
   cases y with
   | true=>exact aX rfl ⟨by rw [if_pos (Or.inr ⟨Yx,hg⟩)],rfl⟩
   | false=>exact aT rfl ⟨by rw [if_neg (λq=>q.elim hp λq=>by rw [hg] at q; cases q.2)],rfl⟩
  ·have JJ:(c.ph==3)=false:=by rw [beq_eq_false_iff_ne]; exact Yx
   rw [JJ];dsimp only [Bool.not_false,Bool.and_false,Bool.and_true,cond_true,cond_false];exact a_ rfl (a_ rfl (a_ rfl (a_ rfl (aT rfl ⟨by rw [if_neg (λq=>q.elim hp λq=>Yx q.1)],rfl⟩))))
theorem KU {x:Int} (h : -1048576<=x/\x<=1048576):(if IntKind.wrap .i64 (0 - x)>x then IntKind.wrap .i64 (0 - x) else x)=(x.natAbs:Int):=by
 have e2:IntKind.wrap .i64 (0 - x)=-x:=by rw [IntKind.wrap_i64]; omega
 rw [e2];split<;>omega
theorem Wm (h:Gr t w Y c nv sc st wb last n r l k j) (dS:nv<=1048576) {p:Option Addr} {m d:Nat} {cl:List Int} (hC:cQ w p m cl) (hm:m<=1048576) (g_:∀x∈cl,Wi nv x) (hp:∀i,ob p i->t i≠4):Calls Tryz.prog 71 #[Pt Y.g,.slice p m d] w λe w'=>
  e=.returned (.tuple #[])/\Gr t w' Y c nv (pG cl sc st c.d).1 (pG cl sc st c.d).2 wb last n r l k j/\af (K4 t) w w':=by
 refine (Nq (some ⟨Y.g,0,none⟩) p m d w (λv w'=>v=.tuple #[]/\Gr t w' Y c nv (pG cl sc st c.d).1 (pG cl sc st c.d).2 wb last n r l k j/\af (K4 t) w w') ?_).mono λe w' ⟨v,he,hv,hk⟩=>⟨by rw [he,hv],hk⟩
 unfold V71;have pM:=hC.len;refine bX (λs W=>∃i:Nat,s.1=i/\i<=m/\Gr t W Y c nv (tF (cl.take i) sc st).1 (tF (cl.take i) sc st).2 wb last n r l k j/\af (K4 t) w W) (λs _=>(m - s.1).toNat) ⟨0,rfl,Nat.zero_le _,h,(af.refl aq w).none⟩ ?_;rintro ⟨i',⟨⟩⟩ W ⟨i,rfl,hi,hG,kW⟩;dsimp only;refine aF (λaM=>?_) λbL=>?_
 ·have aM:i<m:=by simpa using aM
  rw [aA i (by omega)];refine (hC.ax kW λq hq q2=>hp q hq q2).ix aM λa x hx ha=>ah ha (ay (cN (x:=some ⟨Y.Q.h,0,none⟩) (by rw [ag]; exact hG.gb.cell 0) ?_));obtain ⟨q0,q1,q2⟩:=g_ x (List.mem_of_getElem? hx);rw [KU ⟨by omega,by omega⟩];refine az agq (hG.he.bump (v:=(x.natAbs:Int)) ⟨by omega,by omega⟩) λe w1 ⟨he,hk,hp⟩=>⟨_,he,?_⟩
  obtain ⟨a1,b1⟩:=hG.M5 hk hp;refine ⟨⟨i+1,rfl,aM,?_,kW.trans b1 λ_ _ q=>q⟩,by omega⟩;have e3:tF (cl.take (i+1)) sc st=gY (tF (cl.take i) sc st).1 (tF (cl.take i) sc st).2 (x.natAbs:Int):=by
   rw [aB hx]; unfold tF; rw [List.foldl_append]; rfl
  rw [e3]; exact a1
 ·have bL:i=m:=by simp at bL; omega
  subst bL;rw [<-pM,List.take_length] at hG;refine ay (cN (x:=some ⟨Y.Q.h,0,none⟩) (by rw [ag]; exact hG.gb.cell 0) ?_);refine az ags hG.he.Wg λe w1 ⟨he,hk,hp⟩=>⟨he,?_⟩
  obtain ⟨a1,b1⟩:=hG.M5 hk hp;exact ⟨rfl,a1,kW.trans b1 λ_ _ q=>q⟩
structure RdX (w:World) (p:Option Addr) (n:Nat) (xs:List Int):Prop where
 len:xs.length=n
 cell:∀(i:Nat) (x:Int),xs[i]?=some x->∃a lv q rn rc,p=some a/\w.cell? ((a.add (i*3)).add 0)=some (I x)/\w.cell? ((a.add (i*3)).add 1)=some (I lv)/\w.cell? ((a.add (i*3)).add 2)=some (.slice q rn rc)
theorem RdX.ax {U:Nat->Prop} {p:Option Addr} {m:Nat} {xs:List Int} (h:RdX w p m xs) (hk:af U w w') (hU:∀i,ob p i->¬U i):RdX w' p m xs:=
 ⟨h.len,λi x hx=>by
  obtain ⟨a,lv,q,rn,rc,rfl,h0,h1,h2⟩:=h.cell i x hx;have hn:∀m,¬U ((a.add (i*3)).add m).block:=λm=>by rw [rO,rO]; exact hU _ ⟨a,rfl,rfl⟩
  exact ⟨a,lv,q,rn,rc,rfl,hk.cell h0 (hn 0),hk.cell h1 (hn 1),hk.cell h2 (hn 2)⟩⟩
theorem Sh {p:Option Addr} {m:Nat} {es:List En} (h:mF w p m es):RdX w p m (es.map λx=>x.lit):=
 ⟨by rw [List.length_map]; exact h.len,λi x hx=>by
  rw [List.getElem?_map] at hx;cases hq:es[i]? with
  | none=>rw [hq] at hx; cases hx
  | some y=>
   rw [hq] at hx;injection hx with hx;obtain ⟨a,q,rn,rc,h1,h2,h3,h4,_⟩:=h.cell i y hq;exact ⟨a,y.dM,q,rn,rc,h1,by rw [<-hx]; exact h2,h3,h4⟩⟩
theorem YE (h:Gr t w Y c nv sc st wb last n r l k j) (dS:nv<=1048576) {p:Option Addr} {m d left:Nat} {R:List E} (hE:RdX w p m (R.map λx=>x.lit)) (hp:∀i,ob p i->t i≠3/\t i≠4) (hwr:∀x∈R,Wi nv x.lit) (OW:left<=m) (hm:m<=1048576) (hl:last.length=nv) (hmd:m<=d) :
  Calls Tryz.prog 72 #[Pt Y.g,.slice p m d,I left] w λe w'=>e=.returned (.tuple #[])/\Gr t w' Y c nv sc st (cV (R.drop left) last wb).2 (cV (R.drop left) last wb).1 n r l k j/\af (K34 t) w w':=by
 refine (Nr (some ⟨Y.g,0,none⟩) p m d left w (λv w'=>v=.tuple #[]/\Gr t w' Y c nv sc st (cV (R.drop left) last wb).2 (cV (R.drop left) last wb).1 n r l k j/\af (K34 t) w w') ?_).mono λe w' ⟨v,he,hv,hk⟩=>⟨by rw [he,hv],hk⟩
 unfold V72;have hlen:R.length=m:=by have:=hE.len; rwa [List.length_map] at this
 have Bg:(R.drop left).length=m - left:=by rw [List.length_drop,hlen]
 rw [Int.toNat_natCast];refine ⟨by omega,by omega,?_⟩;refine bX (λs W=>∃i:Nat,s.1=i/\i<=m - left/\Gr t W Y c nv sc st (cV ((R.drop left).take i) last wb).2 (cV ((R.drop left).take i) last wb).1 n r l k j/\af (K34 t) w W) (λs _=>((m - left:Nat) - s.1).toNat) ⟨0,rfl,Nat.zero_le _,h,(af.refl aq w).none⟩ ?_;rintro ⟨i',⟨⟩⟩ W ⟨i,rfl,hi,hG,kW⟩;dsimp only;refine aF (λaM=>?_) λbL=>?_
 ·have aM:i<m - left:=by simpa using aM
  rw [aA i (by omega)];obtain ⟨x,hx⟩:=bg (show i<(R.drop left).length by omega);have hxR:R[left+i]?=some x:=by rw [List.getElem?_drop] at hx; exact hx
  have EM:=hwr x (List.mem_of_getElem? hxR);obtain ⟨q0,q1,q2⟩:=EM;have hEW:=hE.ax kW λq hq q2=>by rcases q2 with q2 | q2; exact (hp q hq).1 q2; exact (hp q hq).2 q2
  obtain ⟨a,lv,q,rn,rc,rfl,c0,c1,c2⟩:=hEW.cell (left+i) x.lit (by rw [List.getElem?_map,hxR]; rfl);have sr:jZ (some a) d left 3=some (a.add (left*3)):=by unfold jZ; rw [if_neg (by omega)]; rfl
  have sw:(a.add (left*3)).add (i*3)=a.add ((left+i)*3):=by
   rw [dw.add_add,Nat.add_mul]
  refine ⟨by omega,by omega,?_⟩;rw [sr];show aW .i64 W (((a.add (left*3)).add ((i:Int).toNat*3)).add 0) _;rw [Int.toNat_natCast,sw];refine ah c0 (ah c1 (au c2 ?_));refine aD λqt w2 afI CM k2=>?_;have aoq:W.heap.size<=qt:=by omega
  rw [ag,ag,ag,Nat.zero_add,Nat.zero_add,Nat.zero_add];refine aG CM (by simp) rfl λw3 bP k3 _=>aG bP (by simp) rfl λw4 gJ k4 _=>aG gJ (by simp) rfl λw5 oe k5 _=>?_;have wz:af aq W w5:=((k2.trans k3 λq hq h=>by have h':q=qt:=h; omega).trans k4 λq hq h=>by have h':q=qt:=h; omega).trans k5 λq hq h=>by have h':q=qt:=h; omega
  have c50:w5.cell? ⟨qt,0,none⟩=some (I x.lit):=oe.cell 0;refine ah c50 (ah c50 (ay ?_));have Gq:=(hG.aa wz).aa (af.refl aq w5).drew;have pM:=Gq.Sb;refine au (x:=Y.lb.1) (n:=Y.lb.2.1) (c:=Y.lb.2.2) (by rw [ag]; exact Gq.gb.cell 2) (ah (x:=x.lit) (oe.drew.cell 0) ?_);rw [KU ⟨by omega,by omega⟩];have e3:IntKind.wrap .i64 ((x.lit.natAbs:Int) - 1)=((x.lit.natAbs - 1:Nat):Int):=by rw [IntKind.wrap_i64]; omega
  rw [e3];have kI:(cV ((R.drop left).take i) last wb).1.length=nv:=by rw [BS,hl]
  have Yj:=Gq.la;refine Yj.ix (by omega) (by omega) λbq CH=>?_;rw [CH] at Yj;rw [Nat.mul_one,Int.toNat_natCast,ag,Nat.add_zero];refine Yj.st (by omega) rfl λw6 SZ k6 z6=>?_;have ahe:t bq=3:=Gq.Wl bq (by rw [CH]; exact ⟨_,rfl,rfl⟩);have k6':af (K34 t) w5.drew w6:=k6.mono λq _ hq=>by have Ts:q=bq:=hq; rw [Ts]; exact Or.inl ahe
  obtain ⟨p0,p1,p2,p3,p4,p5⟩:=Gq.Se;have ne:∀{q:Nat} {y:Int},t q=y->y≠3->¬One bq q:=λhq hy h=>by have h':_=bq:=h; rw [h'] at hq; exact hy (hq.symm.trans ahe)
  have Wo:Gr t w6 Y c nv sc st (cV ((R.drop left).take i) last wb).2 ((cV ((R.drop left).take i) last wb).1.set (x.lit.natAbs - 1) (decide (0<x.lit))) n r l k j:=by
   refine ⟨Gq.gb.ax k6 (ne Gq.gO (by decide)),Gq.gO,?_,Gq.Wl,Gq.he.ax k6 λq hq=>ne (Gq.Ty q hq) (by decide),Gq.Ty,Gq.pa.ax k6 (ne p1 (by decide)) (ne p2 (by decide)) (ne p3 (by decide)) (ne p4 (by decide)) (ne p5 (by decide)) (ne p0 (by decide)),Gq.Se,Gq.ok,Gq.kl⟩;rw [CH,List.map_set]; exact SZ
  refine ay (cN (x:=some ⟨Y.Q.h,0,none⟩) (by rw [ag]; exact Wo.gb.cell 0) ?_);have e4:cV ((R.drop left).take (i+1)) last wb=((cV ((R.drop left).take i) last wb).1.set (x.lit.natAbs - 1) (decide (0<x.lit)),(cV ((R.drop left).take i) last wb).2.set (x.lit.natAbs - 1) true):=by
   rw [cm hx]; unfold cV; rw [List.foldl_append]; rfl
  have kk:af (K34 t) w w6:=((kW.ak wz).ak (af.refl aq w5).drew).trans k6' λ_ _ q=>q;refine az agw (Wo.he.put (x.lit.natAbs:Int)) λe w7 hh=>?_;have e5:((x.lit.natAbs:Int) - 1).toNat=x.lit.natAbs - 1:=by omega
  rcases hh with ⟨dO,_⟩ | ⟨nB,he,hw7⟩ | ⟨_,_,he,hk7,hp7⟩
  ·exact absurd ⟨by omega,by omega⟩ dO
  ·refine ⟨_,he,⟨i+1,rfl,aM,?_,by rw [hw7]; exact kk⟩,by omega⟩;rw [e4,hw7];dsimp only;have:(cV ((R.drop left).take i) last wb).2.set (x.lit.natAbs - 1) true=(cV ((R.drop left).take i) last wb).2:=by
    have hq:=(oS.1 nB).2.2;have:=C9 Wo.he.wf.KL (x:=(x.lit.natAbs:Int)) (by omega) (by omega) hq;rw [e5] at this;exact List.ext_getElem? λq=>by
     rw [List.getElem?_set];split
     ·rename_i hqq; subst hqq;rw [if_pos (List.getElem?_eq_some_iff.1 this).1,this]
     ·rfl
   rw [this]; exact Wo
  ·obtain ⟨a1,b1⟩:=Wo.M5 hk7 hp7;refine ⟨_,he,⟨i+1,rfl,aM,?_,kk.trans (b1.mono λq _ hq=>Or.inr hq) λ_ _ q=>q⟩,by omega⟩;rw [e4];rw [e5] at a1;exact a1
 ·have bL:i=m - left:=by simp at bL; omega
  subst bL;rw [<-Bg,List.take_length] at hG;exact ⟨rfl,hG,kW⟩
end
end Sv
namespace T
open Go Vc
end T
namespace bp
open Go Vc T
open bt (cQ aL aA bg aO copy same aB Sl sv mE LL)
theorem YF {M:Nat->Prop} {w:World} {p:Option Addr} {n c:Nat} {hs:List Sl} {av:List (List Int)} (h:LL M w p n c hs av):pP M w p n av:=by
 refine ⟨h.len,λi es hi=>?_⟩;have hl:=h.hl;have hc:=h.len;have aM:=(List.getElem?_eq_some_iff.1 hi).1;obtain ⟨x,hx⟩:=bg (show i<hs.length by omega);obtain ⟨h3,h4⟩:=h.we i x es hx hi;have hO:=h.own;rcases hO with ⟨rfl,rfl,_,_⟩ | ⟨b,cs,rfl,hB,_⟩
 ·omega
 ·refine ⟨⟨b,0,none⟩,x.1,x.2.1,x.2.2,rfl,?_,aL h3,h.out b ⟨_,rfl,rfl⟩,λj hj _=>(h4 j hj).1,λe=>?_⟩
  ·rw [ag,Nat.zero_add,h.own.cell _ (by omega),List.getElem?_map,hx]; rfl
  ·rcases h3 with ⟨_,_,hc,_⟩ | ⟨b,cs,h3,_⟩
   ·exact hc
   ·rw [e] at h3; cases h3
abbrev sX (w:World):Nat->Prop:=λi=>w.heap.size<=i
end bp
namespace Sv
open Go Vc T bp
open Trail (St upto)
open eR (jv rA gZ pF Wf gY iD PH HI FH)
open cS (A4 wr BQ l_ fc fr fl dP)
open bt (cQ aL aA bg aO aB Sl sv LL)
open bU (mF En)
structure Sr (t:Nat->Int) (w:World) (Y:Lay) (c:kN) (av:List (List Int)) (nv:Nat) (kf:Nat) (S:SS):Prop where
 sb:b_ w Y.b [Pt Y.e,fc Y.A,fr Y.A,fl Y.A,fT Y.g,fP Y.g,fW Y.g,fB Y.g,I kf,I c.dh] 83
 bO:t Y.b=1
 gr:Gr t w Y c nv S.sc S.st S.wb S.last S.n S.r S.l S.k S.j
 en:∃M,Ge M w Y.e av (av.length+S.cf) (av.length*1048577+S.cf*(nv+1)) S.E/\∀i,M i->t i=6
 nr:∀i,w.heap.size<=i->t i=0
def Tn (t:Nat->Int) (i:Nat):Prop:=t i≠0
def rC (t:Nat->Int) (w:World) (Y:Lay) (c:kN) (av:List (List Int)) (nv:Nat) (kf:Nat) (S':SS) (w':World):Prop:=
 ∃t',Sr t' w' Y c av nv kf S'/\(∀i,i<w.heap.size->t' i=t i)/\af (Tn t) w w'
section
variable {t t':Nat->Int} {w w' w1:World} {Y:Lay} {c:kN} {av:List (List Int)} {nv kf:Nat} {S S':SS}
theorem Sr.ax (h:Sr t w Y c av nv kf S) {U:Nat->Prop} (hk:af U w w') (hU:∀i,U i->t i=0):Sr t w' Y c av nv kf S:=by
 obtain ⟨M,hG,hM⟩:=h.en;exact ⟨h.sb.ax hk λq=>by have:=hU _ q; rw [h.bO] at this; omega,h.bO,h.gr.ax hk λi hi=>by have:=hU i hi; omega,⟨M,hG.ax hk λi hi q=>by have:=hU i hi; have:=hM i q; omega,hM⟩,λi hi=>h.nr i (Nat.le_trans hk.size hi)⟩
theorem Sr.aa (h:Sr t w Y c av nv kf S) (hk:af aq w w'):Sr t w' Y c av nv kf S:=h.ax hk λi hi=>hi.elim
theorem rC.same (h:Sr t w Y c av nv kf S):rC t w Y c av nv kf S w:=⟨t,h,λ_ _=>rfl,(af.refl aq w).none⟩
theorem rC.aa (h:rC t w Y c av nv kf S w1) (hk:af aq w1 w'):rC t w Y c av nv kf S w':=by
 obtain ⟨t',a,b,d⟩:=h;exact ⟨t',a.aa hk,b,d.ak hk⟩
theorem rC.agh (h:rC t w1 Y c av nv kf S w') (hk:af aq w w1):rC t w Y c av nv kf S w':=by
 obtain ⟨t',a,b,d⟩:=h;exact ⟨t',a,λi hi=>b i (Nat.lt_of_lt_of_le hi hk.size),hk.none.trans d λ_ _ q=>q⟩
theorem rC.cons {t1:Nat->Int} (h:∀i,i<w.heap.size->t1 i=t i) (hk:af (Tn t) w w1) (h':rC t1 w1 Y c av nv kf S' w'):rC t w Y c av nv kf S' w':=by
 obtain ⟨t2,a2,b2,d2⟩:=h';exact ⟨t2,a2,λi hi=>(b2 i (Nat.lt_of_lt_of_le hi hk.size)).trans (h i hi),hk.trans d2 λi hi q=>by unfold Tn at *; rw [<-h i hi]; exact q⟩
theorem Sr.eng (h:Sr t w Y c av nv kf S) {M M':Nat->Prop} {e':ES} {cf':Nat} (hM:∀i,M i->t i=6) (hMl:∀i,M i->i<w.heap.size) (ha:Af M w Y.e av (av.length+cf') (av.length*1048577+cf'*(nv+1)) e' M' w') :
  ∃t',Sr t' w' Y c av nv kf {S with E:=e',cf:=cf'}/\(∀i,i<w.heap.size->t' i=t i)/\af (Tn t) w w'/\(∀i,w.heap.size<=i->¬M' i->t' i=0)/\∀i,M' i->t' i=6:=by
 have hold:∀i,i<w.heap.size->M' i->t i=6:=λi hi hm=>(ha.gr i hm).elim (hM i) λq=>by omega
 let t':Nat->Int:=λi=>open Classical in if M' i then 6 else t i;have ht:∀i,i<w.heap.size->t' i=t i:=λi hi=>by
  show (open Classical in if M' i then (6:Int) else t i)=t i;split
  ·rename_i hm; exact (hold i hi hm).symm
  ·rfl
 have bz:∀i,M i->t' i≠2/\t' i≠3/\t' i≠4/\t' i≠5:=λi hi=>by
  rw [ht i (hMl i hi)]; have:=hM i hi; omega
 have hb:¬M Y.b:=λq=>by have:=hM _ q; rw [h.bO] at this; omega
 have h0:∀i,w.heap.size<=i->¬M' i->t' i=0:=λi hi hm=>by
  show (open Classical in if M' i then (6:Int) else t i)=0;rw [if_neg hm]; exact h.nr i hi
 have h6:∀i,M' i->t' i=6:=λi hi=>by
  show (open Classical in if M' i then (6:Int) else t i)=6;rw [if_pos hi]
 refine ⟨t',⟨h.sb.ax ha.kp hb,(ht _ h.sb.lt).trans h.bO,(h.gr.own ht).ax ha.kp bz,⟨M',ha.ge,h6⟩,λi hi=>h0 i (Nat.le_trans ha.kp.size hi) λq=>by have:=ha.ge.lt i q; omega⟩,ht,ha.kp.mono λi _ hi=>by unfold Tn; rw [hM i hi]; decide,h0,h6⟩
theorem Sr.Wp (h:Sr t w Y c av nv kf S) {M M':Nat->Prop} {e':ES} (hM:∀i,M i->t i=6) (hMl:∀i,M i->i<w.heap.size) (ha:Af M w Y.e av (av.length+S.cf) (av.length*1048577+S.cf*(nv+1)) e' M' w'):rC t w Y c av nv kf {S with E:=e'} w':=by
 obtain ⟨t',a,b,d,_⟩:=h.eng hM hMl ha;exact ⟨t',a,b,d⟩
theorem Sr.vB (h:Sr t w Y c av nv kf S) {U:Nat->Prop} (hk:af U w w') (hU:∀i,U i->t i=3\/t i=4\/t i=5) (S':SS) (hE:S'.E=S.E) (qg:S'.cf=S.cf) (hg:Gr t w' Y c nv S'.sc S'.st S'.wb S'.last S'.n S'.r S'.l S'.k S'.j):Sr t w' Y c av nv kf S'/\af (Tn t) w w':=by
 obtain ⟨M,hG,hM⟩:=h.en;refine ⟨⟨?_,h.bO,hg,⟨M,?_,hM⟩,λi hi=>h.nr i (Nat.le_trans hk.size hi)⟩,hk.mono λi _ hi=>by unfold Tn; have:=hU i hi; omega⟩
 ·exact h.sb.ax hk λq=>by have:=hU _ q; have:=h.bO; omega
 ·rw [hE,qg]; exact hG.ax hk λi hi q=>by have:=hU i hi; have:=hM i q; omega
theorem Gr.Si {n r l k j n' r' l' k' j':Int} {sc:List Nat} {st:Nat} {wb last:List Bool} (h:Gr t w Y c nv sc st wb last n r l k j) {U:Nat->Prop} (hk:af U w w') (hU:∀i,U i->t i=5) (hp:l_ w' Y.A c.bs c.f c.g n' r' l' k' j') (hl:k'<9223372036854775808):Gr t w' Y c nv sc st wb last n' r' l' k' j':=by
 have ne:∀{i:Nat} {x:Int},t i=x->x≠5->¬U i:=λhi hx q=>hx (hi.symm.trans (hU _ q));exact ⟨h.gb.ax hk (ne h.gO (by decide)),h.gO,h.la.ax hk λi hi=>ne (h.Wl i hi) (by decide),h.Wl,h.he.ax hk λi hi=>ne (h.Ty i hi) (by decide),h.Ty,hp,h.Se,h.ok,hl⟩
theorem Sr.fresh (h:Sr t w Y c av nv kf S) {p:Option Addr} (hp:∀i,ob p i->w.heap.size<=i):∀i,ob p i->t i=0:=λi hi=>h.nr i (hp i hi)
structure Bd (av:List (List Int)) (nv cf:Nat):Prop where
 a:av.length+cf+1<=cap
 b:av.length*1048577+(cf+1)*(nv+1)<=8796093022208
theorem abY (h:Sr t w Y c av nv kf S) (hB:Bd av nv S.cf) :
  Calls Tryz.prog 117 #[Pt Y.b] w λe w'=>e=.returned (.tuple #[])/\rC t w Y c av nv kf {S with E:=wM S.E} w':=by
 refine (Jd (some ⟨Y.b,0,none⟩) w (λv w'=>v=.tuple #[]/\rC t w Y c av nv kf {S with E:=wM S.E} w') ?_).mono λe w' ⟨v,he,hv,hk⟩=>⟨by rw [he,hv],hk⟩
 unfold ag6;obtain ⟨M,hG,hM⟩:=h.en;have hA:=hB.a;have hBb:av.length*1048577+S.cf*(nv+1)<=8796093022208:=by have:=hB.b; rw [Nat.add_mul] at this; omega
 refine ay (cN (x:=some ⟨Y.e,0,none⟩) (by rw [ag]; exact h.sb.cell 0) ?_);refine az aem (IJ hG (by omega)) λe w1 ⟨p,n,d,hs,he,hL,k1⟩=>⟨p,n,d,he,?_⟩
 have Xd:=hL.len;have hnb:n<=1099511627776:=by
  have:=hG.sz.g;have:(aU S.E).length=S.E.aC.length:=by unfold aU; rw [List.length_map]
  unfold cap at hA; omega
 have hL1:LL (λi=>w.heap.size<=i) w1 p n d hs (aU S.E):=hL;have e1:IntKind.wrap .i64 (IntKind.wrap .i64 (Int.tdiv (n:Int) 2) - 1)=((n / 2:Nat):Int) - 1:=by
  have:Int.tdiv (n:Int) 2=((n / 2:Nat):Int):=by rw [Int.tdiv_eq_ediv_of_nonneg (by omega)]; rfl
  rw [this,IntKind.wrap_i64,IntKind.wrap_i64]; omega
 rw [e1];have ec:wM S.E=ki (aU S.E) (n / 2) S.E:=by unfold wM; rw [Xd]
 rw [ec];refine bX (λs W=>∃(q:Nat) (e:ES),s.1=(q:Int) - 1/\q<=n / 2/\ki (aU S.E) q e=ki (aU S.E) (n / 2) S.E/\rC t w1 Y c av nv kf {S with E:=e} W) (λs _=>(s.1+1).toNat) ⟨n / 2,S.E,rfl,Nat.le_refl _,rfl,rC.same (h.aa k1)⟩ ?_;rintro ⟨i',⟨⟩⟩ W ⟨q,e,rfl,hq,g_,YG⟩;dsimp only;refine aF (λbL=>?_) λaM=>?_
 ·have bL:1<=q:=by
   have:(q:Int) - 1 >= 0:=by simpa using bL
   omega
  obtain ⟨q,rfl⟩:∃q',q=q'+1:=⟨q - 1,by omega⟩
  have e2:((q+1:Nat):Int) - 1=(q:Int):=by omega
  have e3:IntKind.wrap .i64 ((q:Int) - 1)=(q:Int) - 1:=by rw [IntKind.wrap_i64]; omega
  rw [e2,e3];obtain ⟨t1,Ot,Sj,xd⟩:=YG;obtain ⟨ec',hec⟩:=bg (show q<(aU S.E).length by omega);refine ⟨λ_ W'=>rC t w1 Y c av nv kf {S with E:=if 2<((aU S.E).getD q []).length then (forget e q).2 else e} W',?_,?_⟩;rotate_left
  ·rintro ⟨⟩ W' Oo;refine ⟨⟨q,_,rfl,by omega,?_,Oo⟩,by omega⟩;rw [<-g_]; rfl
  have hLW:LL (λi=>w.heap.size<=i) W p n d hs (aU S.E):=hL1.ax xd λi hi q2=>q2 (h.nr i hi);have hg:(aU S.E).getD q []=ec':=by rw [List.getD_eq_getElem?_getD,hec]; rfl
  refine (YF hLW).ix hec λa q2 m2 c2 ha dm _ _=>au ha ?_;have RB:=dm.len;rw [hg];refine aF (λaM=>?_) λbL=>?_
  ·have aM:2<ec'.length:=by
    have:(m2:Int)>2:=by simpa using aM
    omega
   rw [if_pos aM];obtain ⟨M1,YH,hM1⟩:=Ot.en;refine ay (cN (x:=some ⟨Y.e,0,none⟩) (by rw [ag]; exact Ot.sb.cell 0) ?_);refine az aei (MT YH (by show av.length+S.cf<=cap; omega) hBb q) λe' w3 ⟨he,M2,hA2⟩=>⟨_,he,?_⟩
   exact rC.cons Sj xd (Ot.Wp hM1 YH.lt hA2)
  ·have bL:¬2<ec'.length:=by
    have:¬(m2:Int)>2:=by simpa using bL
    omega
   rw [if_neg bL];exact ⟨t1,Ot,Sj,xd⟩
 ·have hq0:q=0:=by
   have:¬(q:Int) - 1 >= 0:=by simpa using aM
   omega
  subst hq0;have:e=ki (aU S.E) (n / 2) S.E:=g_;rw [<-this];exact ⟨rfl,YG.agh k1⟩
theorem Wq (h:Sr t w Y c av nv kf S) (dS:nv<=1048576) (hE:S.E.nv=nv) (hl:S.last.length=nv) :
  Calls Tryz.prog 79 #[Pt Y.b] w λe w'=>e=.returned (.tuple #[])/\rC t w Y c av nv kf (pH c S) w':=by
 refine (Nl (some ⟨Y.b,0,none⟩) w (λv w'=>v=.tuple #[]/\rC t w Y c av nv kf (pH c S) w') ?_).mono λe w' ⟨v,he,hv,hk⟩=>⟨by rw [he,hv],hk⟩
 unfold V79;have hw0:=h.gr.he.wf.KL;refine Rl (G:=List Bool×Nat) (λg _ W=>g.1.count true<g.2/\vA nv S.sc c.ph S.last S.E g.2 g.1=vA nv S.sc c.ph S.last S.E (S.E.nv+1) S.wb/\rC t w Y c av nv kf {S with wb:=g.1} W) (λg _ _=>g.2) (S.wb,S.E.nv+1) ⟨?_,rfl,rC.same h⟩ ?_
 ·have:=List.count_le_length (a:=true) (l:=S.wb);dsimp only;omega
 rintro ⟨wb,tt⟩ ⟨⟩ W ⟨IC,hde,t1,Ot,Sj,xd⟩ Q hQ;obtain ⟨tt,rfl⟩:∃q,tt=q+1:=⟨tt - 1,by dsimp only at IC; omega⟩
 dsimp only at IC hde ⊢;refine ay (cT (x:=fT Y.g) (by rw [ag,ag]; exact Ot.sb.cell 4) ?_);refine dP (az amu (ahd Ot.gr) λe w2 hh=>?_);rcases hh with ⟨hn,he,rfl⟩ | ⟨x,hx,nB,he,hG2,k2⟩
 ·refine ⟨0,false,he,?_⟩;refine a_ rfl (a_ rfl (a_ rfl (a_ rfl (a_ rfl ⟨(λq=>by cases q),a_ rfl (aX rfl ⟨rfl,?_⟩)⟩))));have e1:pH c S={S with wb:=wb}:=by
   unfold pH;rw [hE] at hde ⊢;rw [<-hde];unfold vA;rw [show je nv S.sc wb=none from hn]
  rw [e1];exact (rC.aa ⟨t1,Ot,Sj,xd⟩ (af.refl aq w2).drew)
 ·refine ⟨x,true,he,?_⟩;obtain ⟨x1,x2,x3⟩:=oS.1 nB;obtain ⟨hS2,kT⟩:=Ot.vB k2 (λi hi=>Or.inr (Or.inl hi)) {S with wb:=wb.set (x - 1).toNat false} rfl rfl hG2;have hSd:=hS2.aa (af.refl aq w2).drew;have kd:af (Tn t1) W w2.drew:=kT.ak (af.refl aq w2).drew;generalize w2.drew=w3 at *
  refine aS rfl (ay (aS rfl (cN (x:=some ⟨Y.e,0,none⟩) (by rw [ag]; exact hSd.sb.cell 0) ?_)));refine aS rfl (ay (aS rfl (cT (x:=fP Y.g) (by rw [ag,ag]; exact hSd.sb.cell 5) ?_)));refine aS rfl (dP (az amv (Sf hSd.gr dS hl x1 x2) λe w4 ⟨he,hw⟩=>?_));subst hw;refine ⟨_,he,⟨λ_=>cN (x:=some ⟨Y.e,0,none⟩) (by rw [ag]; exact hSd.sb.cell 0) rfl,?_⟩⟩;obtain ⟨M,hG,hM⟩:=hSd.en;obtain ⟨⟨q1,q2,q3⟩,_⟩:=Sa x1 x2 c.ph S.last;refine aS rfl (az aef (MS hG (gf c.ph S.last x) (by omega)) λe w5 ⟨he,M',hA⟩=>⟨_,he,?_⟩);have YG:rC t w Y c av nv kf {S with wb:=wb.set (x - 1).toNat false,E:=dG S.E (gf c.ph S.last x)} w5:=rC.cons Sj (xd) (rC.cons (λ_ _=>rfl) kd (hSd.Wp hM hG.lt hA));by_cases hd:iH S.E (gf c.ph S.last x)=0
  ·refine aX ?_ ⟨rfl,?_⟩
   ·show cond false true (iH S.E (gf c.ph S.last x)==0)=true;rw [hd]; rfl
   ·have e1:pH c S={S with wb:=wb.set (x - 1).toNat false,E:=dG S.E (gf c.ph S.last x)}:=by
     unfold pH;rw [hE] at hde ⊢;rw [<-hde];unfold vA;rw [show je nv S.sc wb=some x from hx];dsimp only;rw [if_pos hd]
    rw [e1]; exact YG
  ·refine aT ?_ (hQ (wb.set (x - 1).toNat false,tt) _ _ ⟨?_,?_,?_⟩ (Nat.lt_succ_self _))
   ·show cond false true (iH S.E (gf c.ph S.last x)==0)=false;rw [show (iH S.E (gf c.ph S.last x)==0)=false from beq_eq_false_iff_ne.2 hd]; rfl
   ·have ZH:wb.length=nv:=Ot.gr.he.wf.KL;have:=count_set (C9 ZH x1 x2 x3);dsimp only;omega
   ·rw [<-hde];dsimp only;rw [show vA nv S.sc c.ph S.last S.E (tt+1) wb=(match je nv S.sc wb with
     | none=>(S.E,wb)
     | some x=>if iH S.E (gf c.ph S.last x)=0 then (dG S.E (gf c.ph S.last x),wb.set (x - 1).toNat false) else vA nv S.sc c.ph S.last S.E tt (wb.set (x - 1).toNat false)) from rfl]
    rw [show je nv S.sc wb=some x from hx];dsimp only;rw [if_neg hd]
   ·have e1:dG S.E (gf c.ph S.last x)=S.E:=by unfold dG; rw [if_neg hd]
    rw [e1] at YG;exact YG
end
end Sv
namespace bp
open Go Vc T
inductive Good (av:List (List Int)) (nv:Nat):List (Bool×List Int)->List (List Int)->Prop
 | nil:Good av nv [] []
 | add {l:List (Bool×List Int)} {L:List (List Int)} {s:List Int} (h:Good av nv l L) (hr:mJ (av++L) (s.map λx=>-x)) (hw:∀x∈s,Wi nv x) (hn:s.length<=1048576) (bz:s≠[]) (u9:∀c∈av++L,¬∀x,x∈c↔x∈s):Good av nv (l++[(false,s)]) (L++[s])
 | drop {l:List (Bool×List Int)} {L:List (List Int)} {i:Nat} {s:List Int} (h:Good av nv l L) (hi:L[i]?=some s):Good av nv (l++[(true,s)]) (L.eraseIdx i)
section
variable {av:List (List Int)} {nv:Nat} {S:ES}
theorem Good.lits {l:List (Bool×List Int)} {L:List (List Int)} (h:Good av nv l L):(∀x∈l,x.2.length<=1048576/\∀y∈x.2,Wi nv y)/\∀c∈L,c.length<=1048576/\∀y∈c,Wi nv y:=by
 induction h with
 | nil=>exact ⟨(λx hx=>by cases hx),(λx hx=>by cases hx)⟩
 | add h hr hw hn _ _ ih=>
  refine ⟨λx hx=>?_,λc hc=>?_⟩
  ·rcases List.mem_append.1 hx with hx | hx
   ·exact ih.1 x hx
   ·simp only [List.mem_singleton] at hx; subst hx; exact ⟨hn,hw⟩
  ·rcases List.mem_append.1 hc with hc | hc
   ·exact ih.2 c hc
   ·simp only [List.mem_singleton] at hc; subst hc; exact ⟨hn,hw⟩
 | drop h hi ih=>
  refine ⟨λx hx=>?_,λc hc=>ih.2 c ((List.eraseIdx_sublist _ _).mem hc)⟩;rcases List.mem_append.1 hx with hx | hx
  ·exact ih.1 x hx
  ·simp only [List.mem_singleton] at hx; subst hx;exact ih.2 _ (List.mem_of_getElem? hi)
structure Gd (av:List (List Int)) (S:ES):Prop where
 al:S.dead=false->Good av S.nv S.log (aU S)
 de:S.dead=true->∃l L,S.log=l++[(false,[])]/\Good av S.nv l L/\mJ (av++L) []
theorem Sm (nv:Nat) (hn:(jc nv av).nv=nv) (hd:(jc nv av).dead=false) (hl:(jc nv av).log=[]) (hs:aU (jc nv av)=[]):Gd av (jc nv av):=
 ⟨λ_=>by rw [hl,hs]; exact .nil,λh=>by rw [hd] at h; cases h⟩
theorem Gd.same {S':ES} (h:Gd av S) (h1:S'.nv=S.nv) (h2:S'.dead=S.dead) (h3:S'.log=S.log) (h4:aU S'=aU S):Gd av S':=
 ⟨λhd=>by rw [h1,h3,h4]; exact h.al (by rw [<-h2]; exact hd),λhd=>by rw [h1,h3]; exact h.de (by rw [<-h2]; exact hd)⟩
theorem Gd.dec (h:Gd av S) (l:Int):Gd av (dG S l):=h.same (RM l) (Fu l) (by unfold dG; split<;>rfl) (xC l)
theorem Gd.aR (h:Gd av S):Gd av (aR S).2:=h.same zQ vg (by unfold bp.aR; split<;>rfl) pE
theorem Gd.gE (hq:Iq av S) (h:Gd av S) (hd:S.dead=false) (dS:S.nv<=1048576):Gd av (aN S):=by
 rcases kD hq with ⟨_,e⟩ | ⟨hc,h1,h2,h3,e⟩ | ⟨hc,h1,hf,e⟩
 ·rw [e]; exact h
 ·rw [e];refine ⟨λq=>(by cases q),λ_=>⟨S.log,aU S,rfl,h.al hd,?_⟩⟩;have:=wI hq hc;rw [h3] at this; exact this
 ·have e1:=zR S;have Bg:(aN S).dead=false:=by rw [e]; exact (oQ S (pQ S)).2.2.2.1.trans hd
  refine ⟨λ_=>?_,λq=>by rw [Bg] at q; cases q⟩;have e2:(aN S).log=S.log++[(false,pQ S)]:=by rw [e]; exact (oQ S (pQ S)).2.2.2.2.2
  have e3:aU (aN S)=aU S++[pQ S]:=by rw [e]; exact tE hq.iz.toWfS _ _
  rw [e1,e2,e3];exact .add (h.al hd) (wI hq hc) hf.wi (Nat.le_trans hf.ln dS) hf.ne λc Kh=>MQ hq hc hf Kh
theorem Gd.forget (h:Gd av S) (Dn:S.dead=false) (i:Int):Gd av (forget S i).2:=by
 rcases oR S i with ⟨_,e⟩ | ⟨k,d,hr,h0,hi,hk,hd,hl,e⟩
 ·rw [e]; exact h
 ·rw [e];have e1:aU (jb S i.toNat k d)=(aU S).eraseIdx i.toNat:=vf hd;refine ⟨λq=>?_,λq=>?_⟩
  ·rw [e1];show Good av S.nv (S.log++[(true,d.ls)]) _;refine .drop (h.al q) ?_;unfold aU;rw [List.getElem?_map,hk,Option.map_some,rS hd]
  ·rw [show (jb S i.toNat k d).dead=S.dead from rfl,Dn] at q; cases q
end
end bp
namespace bp
open Go Vc T
open bt (cQ aL aA bg aO Sl sv mE LL)
structure PL (M:Nat->Prop) (w:World) (p:Option Addr) (n c:Nat) (gs:List Sl) (ss:List (Bool×List Int)):Prop where
 own:bR w 99 2 p n c ((ss.zip gs).flatMap ef)
 len:gs.length=ss.length
 out:∀j,ob p j->M j
 we:∀(i:Nat) (x:Bool×List Int) (y:Sl),ss[i]?=some x->gs[i]?=some y->bR w 3 1 y.1 y.2.1 y.2.2 (x.2.map I)/\∀j,ob y.1 j->M j/\¬ob p j
 dis:∀(i k:Nat) (y z:Sl),i<k->gs[i]?=some y->gs[k]?=some z->∀j,ob y.1 j->¬ob z.1 j
section
variable {M M':Nat->Prop} {w w':World} {p:Option Addr} {n c:Nat} {gs:List Sl} {ss:List (Bool×List Int)}
theorem PL.nn (h:PL M w p n c gs ss):n=ss.length:=by
 have:=h.own.len;rw [wB,List.length_zip,h.len,Nat.min_self] at this; omega
theorem PL.nil (M:Nat->Prop) (w:World):PL M w none 0 0 [] []:=⟨bR.nil _ _ _,rfl,λj ⟨a,h,_⟩=>(by cases h),λi x y h=>by simp at h,λi k y z _ h=>by simp at h⟩
theorem PL.ax {U:Nat->Prop} (h:PL M w p n c gs ss) (hk:af U w w') (hu:∀i,i<w.heap.size->M i->¬U i):PL M w' p n c gs ss:=
 ⟨h.own.ax hk λi hi=>hu i (h.own.lt i hi) (h.out i hi),h.len,h.out,λi x y h1 h2=>by
  obtain ⟨h3,h4⟩:=h.we i x y h1 h2;exact ⟨h3.ax hk λj hj=>hu j (h3.lt j hj) (h4 j hj).1,h4⟩,h.dis⟩
theorem PL.aa (h:PL M w p n c gs ss) (hk:af aq w w'):PL M w' p n c gs ss:=h.ax hk λ_ _ _ h=>h
theorem PL.mono (h:PL M w p n c gs ss) (hm:∀i,i<w.heap.size->M i->M' i):PL M' w p n c gs ss:=
 ⟨h.own,h.len,λj hj=>hm j (h.own.lt j hj) (h.out j hj),λi x y h1 h2=>⟨(h.we i x y h1 h2).1,λj hj=>⟨hm j ((h.we i x y h1 h2).1.lt j hj) ((h.we i x y h1 h2).2 j hj).1,((h.we i x y h1 h2).2 j hj).2⟩⟩,h.dis⟩
end
theorem abZ {ex:Nat->Prop} {w:World} {b:Nat} {o:Nat->Int} {h:Hs} {S:ES} (hR:Rp ex w b o h S) (zu:S.log.length<=1099511627776) (hl:∀x∈S.log,x.2.length<=1048576) :
  Calls Tryz.prog 229 #[Pt h.bk] w λe w'=>∃p n c gs,e=.returned (.slice p n c)/\PL (λi=>w.heap.size<=i) w' p n c gs S.log/\af aq w w':=by
 refine (Jg (some ⟨h.bk,0,none⟩) w (λv w'=>∃p n c gs,v=.slice p n c/\PL (λi=>w.heap.size<=i) w' p n c gs S.log/\af aq w w') ?_).mono λe w' ⟨v,he,p,n,c,gs,hv,hk⟩=>⟨p,n,c,gs,by rw [he,hv],hk⟩
 unfold ahb;refine ay (au (x:=h.lg.1) (n:=h.lg.2.1) (c:=h.lg.2.2) (by rw [ag]; exact hR.bk.cell 0) ?_);have abd:=hR.lg.len;rw [wB,List.length_zip,hR.AP,Nat.min_self] at abd;refine bX (λs W=>∃(i:Nat) (gs:List Sl),s.2.1=(i:Int)/\i<=S.log.length/\PL (λi=>w.heap.size<=i) W s.1.1 s.1.2.1 s.1.2.2 gs (S.log.take i)/\af aq w W) (λs _=>(S.log.length - s.2.1).toNat)
  ⟨0,[],rfl,Nat.zero_le _,PL.nil _ _,af.refl _ _⟩ ?_
 rintro ⟨⟨sp,sn,sc⟩,i',⟨⟩⟩ W ⟨i,gs,rfl,hi,hP,kW⟩;dsimp only at hP ⊢;have U6:=hP.nn;rw [List.length_take] at U6;refine aF (λaM=>?_) λbL=>?_
 ·have aM:i<S.log.length:=by
   have:(i:Int)<(h.lg.2.1:Int):=by simpa using aM
   omega
  rw [aA i (by omega)];obtain ⟨x,hx⟩:=bg aM;obtain ⟨y,hy⟩:=bg (show i<h.gl.length by rw [hR.AP]; exact aM);have pV:=hR.aa kW;have hlg:=pV.lg;have hz:(S.log.zip h.gl)[i]?=some (x,y):=by rw [List.getElem?_zip_eq_some]; exact ⟨hx,hy⟩
  have hfm:∀(l:List ((Bool×List Int)×Sl)) (k:Nat) (q:(Bool×List Int)×Sl),l[k]?=some q->(l.flatMap ef)[k*2]?=some (.bool q.1.1)/\(l.flatMap ef)[k*2+1]?=some (sv q.2):=by
   intro l;induction l with
   | nil=>intro k q h; simp at h
   | cons a l ih=>
    intro k q h;cases k with
    | zero=>
     simp only [List.getElem?_cons_zero,Option.some.injEq] at h;subst h; exact ⟨rfl,rfl⟩
    | succ k=>
     rw [List.getElem?_cons_succ] at h;have:=ih k q h;rw [List.flatMap_cons];show (.bool a.1.1 :: sv a.2 :: l.flatMap ef)[(k+1)*2]?=_/\_;rw [show (k+1)*2=k*2+1+1 by omega];exact this
  obtain ⟨f1,f2⟩:=hfm _ _ _ hz;refine pV.lg.ix (by omega) (by omega) λbq CH=>?_;rw [CH] at hlg;rw [Int.toNat_natCast,ag,ag];refine dX (x:=x.1) (by rw [hlg.cell _ (by omega)]; exact f1) (au (x:=y.1) (n:=y.2.1) (c:=y.2.2) (by rw [hlg.cell _ (by omega)]; exact f2) ?_);obtain ⟨gR,_⟩:=pV.gl i x y hx hy;have gl:=gR.len;have D8:=hl x (List.mem_of_getElem? hx);refine aD λYD w2 ao7 amy k2=>?_;rw [ag,ag];refine aG amy (by simp) rfl λw3 bP k3 _=>aG bP (by simp) rfl λw4 gJ k4 _=>?_;have uX:af aq W w4.drew:=((k2.trans k3 λq hq h=>by have h':q=YD:=h; omega).trans k4 λq hq h=>by have h':q=YD:=h; omega).ak (af.refl aq w4).drew;have oe:=gJ.drew;generalize w4.drew=w5 at *
  refine dX (x:=x.1) (oe.cell 0) (au (x:=y.1) (n:=y.2.1) (c:=y.2.2) (oe.cell 1) ?_);refine az Ec (uZ (gR.ax uX λ_ _ h=>h) (by omega)) λe w6 ⟨v,he,cp,cc,hv,hO,u9,k6⟩=>?_;subst hv;refine ⟨cp,x.2.length,cc,he,dX (x:=x.1) ((oe.aa k6).cell 0) rfl,?_⟩;refine aD λGb w7 afM pO k7=>?_;have By:=(uX.ak k6).ak k7;have zW:=kW.size;have z4:=uX.size;have z6:=k6.size;have z7:=k7.size;have hN:ql w7 2 (some ⟨Gb,0,none⟩) 1 1 (ef (x,(cp,x.2.length,cc))):=Or.inr ⟨_,rfl,rfl,λj u hu=>by
   rw [ag,Nat.zero_add,pO.cell]; exact hu⟩
  have hP7:=hP.aa By;refine fI (e:=99) (sz:=2) (z:=.agg #[.bool false,.slice none 0 0]) (B:=32) Tryz.underlying31 (by kernel_rfl) rfl (by omega) hP7.own hN (λu hu=>?_) (by simp only [maxLen]; omega) (by omega) λp' c' w8 JE hd8=>?_
  ·simp only [ef,List.mem_cons,List.not_mem_nil,or_false] at hu;rcases hu with rfl | rfl<;>rfl
  have kk:af (ob sp) w7 w8:=by
   rcases hd8 with ⟨_,_,_,kk⟩ | ⟨_,kk⟩
   ·exact kk
   ·exact kk.none
  have hp':∀j,ob p' j->ob sp j\/w7.heap.size<=j:=λj hj=>by
   rcases hd8 with ⟨e,_,_,_⟩ | ⟨e,_⟩
   ·rw [e] at hj; exact Or.inl hj
   ·exact Or.inr (e j hj)
  have z8:=kk.size;have S8:(S.log.take i).length=i:=by rw [List.length_take]; omega
  have lX:=hP.len;rw [S8] at lX;refine ⟨⟨i+1,gs++[(cp,x.2.length,cc)],rfl,aM,⟨?_,?_,?_,?_,?_⟩,(kW.ak By).trans kk λj hj hh=>by have:=hP.out j hh; omega⟩,by omega⟩
  ·rw [cm hx,List.zip_append (by rw [S8,lX]),List.flatMap_append];exact JE
  ·rw [cm hx,List.length_append,List.length_append,lX,S8]; rfl
  ·intro j hj;rcases hp' j hj with h1 | h1
   ·exact hP.out j h1
   ·omega
  ·intro k x1 y1 lU oy;by_cases hk:k<i
   ·rw [cm hx,List.getElem?_append_left (by rw [S8]; exact hk)] at lU;rw [List.getElem?_append_left (by rw [lX]; exact hk)] at oy;obtain ⟨q1,q2⟩:=hP7.we k x1 y1 lU oy;obtain ⟨q3,_⟩:=hP.we k x1 y1 lU oy;refine ⟨q1.ax kk λj hj=>(q2 j hj).2,λj hj=>⟨(q2 j hj).1,λhh=>?_⟩⟩;rcases hp' j hh with h1 | h1
    ·exact (q2 j hj).2 h1
    ·have:=q3.lt j hj; omega
   ·have pX:=(List.getElem?_eq_some_iff.1 oy).1;rw [List.length_append,lX] at pX;simp only [List.length_singleton] at pX;obtain rfl:k=i:=by omega
    rw [cm hx,List.getElem?_append_right (by rw [S8]; exact Nat.le_refl _),S8,Nat.sub_self] at lU;rw [List.getElem?_append_right (by rw [lX]; exact Nat.le_refl _),lX,Nat.sub_self] at oy;simp only [List.getElem?_cons_zero,Option.some.injEq] at lU oy;subst lU oy;have TK:∀j,ob cp j->¬ob sp j:=λj hj hh=>by have:=hP.own.lt j hh; have:=u9 j hj; omega
    refine ⟨(hO.aa k7).ax kk TK,λj hj=>⟨by have:=u9 j hj; show w.heap.size<=j; omega,λhh=>?_⟩⟩;rcases hp' j hh with h1 | h1
    ·exact TK j hj h1
    ·have:=hO.lt j hj; omega
  ·intro a k y1 z1 hak oy hz1 j hj SQ;have pX:=(List.getElem?_eq_some_iff.1 hz1).1;rw [List.length_append,lX] at pX;simp only [List.length_singleton] at pX;rw [List.getElem?_append_left (by rw [lX]; omega)] at oy;by_cases hk:k<i
   ·rw [List.getElem?_append_left (by rw [lX]; exact hk)] at hz1;exact hP.dis a k y1 z1 hak oy hz1 j hj SQ
   ·obtain rfl:k=i:=by omega
    rw [List.getElem?_append_right (by rw [lX]; exact Nat.le_refl _),lX,Nat.sub_self] at hz1;simp only [List.getElem?_cons_zero,Option.some.injEq] at hz1;subst hz1;obtain ⟨x1,lU⟩:=bg (show a<(S.log.take k).length by rw [S8]; exact hak);obtain ⟨q3,_⟩:=hP.we a x1 y1 lU oy;have:=q3.lt j hj;have:=u9 j SQ;omega
 ·have bL:i=S.log.length:=by
   have:¬(i:Int)<(h.lg.2.1:Int):=by simpa using bL
   omega
  subst bL;rw [List.take_length] at hP;exact ⟨_,_,_,gs,rfl,hP,kW⟩
theorem ab0 (q : Option Addr) (w : World) : (method (Tryz.prog.types.size + Made.depth) 112 (.pointer q) "depot/engine.all").run Tryz.prog w = .ok (229, .pointer q) w := by
 kernel_rfl
theorem ahf {ex:Nat->Prop} {w:World} {b:Nat} {o:Nat->Int} {h:Hs} {S:ES} (hR:Rp ex w b o h S) (zu:S.log.length<=1099511627776) (hl:∀x∈S.log,x.2.length<=1048576) :
  Calls Tryz.prog 76 #[Pt b] w λe w'=>∃p n c gs,e=.returned (.slice p n c)/\PL (λi=>w.heap.size<=i) w' p n c gs S.log/\af aq w w':=by
 refine (Nu (some ⟨b,0,none⟩) w (λv w'=>∃p n c gs,v=.slice p n c/\PL (λi=>w.heap.size<=i) w' p n c gs S.log/\af aq w w') ?_).mono λe w' ⟨v,he,p,n,c,gs,hv,hk⟩=>⟨p,n,c,gs,by rw [he,hv],hk⟩
 unfold V76;refine ay (cT (x:=.iface 112 (Pt h.bk)) (by rw [ag]; exact hR.self.cell 7) ?_);exact ⟨112,Pt h.bk,229,Pt h.bk,rfl,λw=>ab0 _ w,az ahc (abZ hR zu hl) λe w' ⟨p,n,c,gs,he,hh⟩=>⟨p,n,c,he,p,n,c,gs,rfl,hh⟩⟩
theorem ab1 {M:Nat->Prop} {w:World} {b:Nat} {av:List (List Int)} {A B:Nat} {S:ES} (h:Ge M w b av A B S) (hA:A<=cap) (hl:∀x∈S.log,x.2.length<=1048576) :
  Calls Tryz.prog 76 #[Pt b] w λe w'=>∃p n c gs,e=.returned (.slice p n c)/\PL (λi=>w.heap.size<=i) w' p n c gs S.log/\af aq w w':=by
 obtain ⟨o,hs,hR,ho⟩:=h.rp;exact ahf hR (by have:=h.sz.g; unfold cap at hA; omega) hl
end bp
namespace Sv
open Go Vc T bp
open Trail (St upto)
open eR (jv rA gZ pF Wf gY iD PH HI FH)
open cS (A4 wr BQ l_ fc fr fl dP lN vv nW)
open bt (cQ aL aA bg aO aB Sl sv LL)
open bU (mF En)
section
variable {t t':Nat->Int} {w w' w1:World} {Y:Lay} {c:kN} {av:List (List Int)} {nv kf:Nat} {S S':SS}
theorem ab2 (a b n:Nat):a*1048577+b*(n+1)+n+1<=a*1048577+(b+1)*(n+1):=by rw [Nat.add_mul b 1 (n+1)]; omega
theorem FR (S:ES):(cB S).map (λx=>x.lit)=S.R.map λx=>x.lit:=by
 unfold cB; rw [List.map_map]; rfl
theorem ri (k:Int) (R:List E):(upto k R).length<=R.length:=(List.filter_sublist).length_le
theorem Ws {e:ES} (hq:Iq av e) (hc:e.aQ=true) (hd:(aN e).dead=false) (Po:e.dead=false):1<=(aN e).R.length/\(aN e).R.length - 1<=e.R.length/\(dQ e).1=pQ e/\(pQ e).length<=e.nv:=by
 rcases kD hq with ⟨h1,_⟩ | ⟨_,h1,h2,h3,e1⟩ | ⟨_,h1,hf,e1⟩
 ·rw [hc] at h1; cases h1
 ·rw [e1] at hd; cases hd
 ·obtain ⟨_,_,e5,e6,_⟩:=oJ e (pQ e);have hR:(aN e).R=upto (oP e).1 e.R++[(⟨(pQ e).headD 0,((((aY e (pQ e)).L.take (oP e).1.toNat).length:Nat):Int),xy e⟩:E)]:=by
   rw [e1];show upto (oP e).1 (aY e (pQ e)).R++[_]=_;rw [e5]; rfl
  have hl:(aN e).R.length=(upto (oP e).1 e.R).length+1:=by rw [hR,List.length_append]; rfl
  have:=ri (oP e).1 e.R;exact ⟨by omega,by omega,by unfold dQ; rw [if_neg (by rw [hc]; decide),if_neg h1],hf.ln⟩
theorem Bd.b0 (hB:Bd av nv kf):av.length*1048577+kf*(nv+1)<=8796093022208:=by have:=hB.b; rw [Nat.add_mul] at this; omega
theorem Sr.ahg (h:Sr t w Y c av nv kf S):S.E.R.length<=1048576:=by
 obtain ⟨M,⟨⟨o,hs,hR,_⟩,_,_,_⟩,_⟩:=h.en;have:=hR.tr.small; omega
theorem Sr.rwi (h:Sr t w Y c av nv kf S) (hE:S.E.nv=nv):∀x∈S.E.R,Wi nv x.lit:=by
 obtain ⟨M,hG,_⟩:=h.en;rw [<-hE]; exact λx hx=>gN (hG.iq.iz.st.own x hx)
theorem ab3 (h:Sr t w Y c av nv (S.cf+1) S) (hc:S.E.aQ=true) (hk:Sk av nv S.cf c.d S.E S.sc S.st S.wb S.last) (dS:nv<=1048576) (hB:Bd av nv S.cf) :
  Calls Tryz.prog 74 #[Pt Y.b] w λe w'=>e=.returned (.tuple #[])/\rC t w Y c av nv (S.cf+1) (bV c S) w':=by
 refine (Nj (some ⟨Y.b,0,none⟩) w (λv w'=>v=.tuple #[]/\rC t w Y c av nv (S.cf+1) (bV c S) w') ?_).mono λe w' ⟨v,he,hv,hk⟩=>⟨by rw [he,hv],hk⟩
 unfold V74;obtain ⟨M,hG,hM⟩:=h.en;have hA:=hB.a;have hB0:=hB.b0;refine ay (cN (x:=some ⟨Y.e,0,none⟩) (by rw [ag]; exact h.sb.cell 0) ?_);refine az Bu (mK hG hB0) λe w1 ⟨p4,c4,hc4,he,hE4,LU,k1⟩=>⟨p4,_,c4,he,?_⟩
 have h1:=h.aa k1;refine ay (cN (x:=some ⟨Y.e,0,none⟩) (by rw [ag]; exact h1.sb.cell 0) ?_);have YH:=hG.aa k1;refine az aej (RO YH (by omega) hB0) λe w2 ⟨p9,c9,M',he,S9,hf9,hA2⟩=>⟨p9,_,c9,_,_,he,?_⟩
 have amz:Af M w1 Y.e av (av.length+(S.cf+1)) (av.length*1048577+(S.cf+1)*(nv+1)) (aN S.E) M' w2:=hA2.mono (Nat.le_refl _) (by rw [hk.Ao]; exact ab2 _ _ _);obtain ⟨t2,h2,JW,YI,z2,s2⟩:=h1.eng hM YH.lt amz;have Tz:af (Tn t) w w2:=k1.none.trans YI λ_ _ q=>q;have ug:∀i,i<w.heap.size->t2 i=t i:=λi hi=>JW i (Nat.lt_of_lt_of_le hi k1.size);obtain ⟨M2,hG2,hM2⟩:=h2.en;refine ay (cN (x:=some ⟨Y.e,0,none⟩) (by rw [ag]; exact h2.sb.cell 0) ?_);refine az aek (KC hG2) λe w3 ⟨he,hw⟩=>⟨_,he,?_⟩
 subst hw;refine aF (λhd=>?_) λhd=>?_
 ·have hd:(aN S.E).dead=true:=hd;refine ⟨rfl,t2,?_,ug,Tz⟩;have e1:bV c S={S with E:=aN S.E,cf:=S.cf+1}:=by unfold bV; rw [if_pos hd]
  rw [e1]; exact h2
 ·have hd:(aN S.E).dead=false:=hd;obtain ⟨r1,r2,r3,r4⟩:=Ws hk.iq hc hd hk.al;refine ay (cT (x:=fB Y.g) (by rw [ag,ag]; exact (h2.sb.drew).cell 7) ?_);have A3:af aq w3 w3.drew:=(af.refl aq w3).drew;have TA:=h2.aa A3;have ab4:=hG2.aa A3;generalize w3.drew=w4 at *
  refine ay (cN (x:=some ⟨Y.e,0,none⟩) (by rw [ag]; exact TA.sb.cell 0) ?_);refine az Bu (mK ab4 hB.b) λe w5 ⟨TS,c22,_,he,amA,amB,k5⟩=>⟨TS,_,c22,he,?_⟩
  have h5:=TA.aa k5;refine ⟨cT (x:=fB Y.g) (by rw [ag,ag]; exact h5.sb.cell 7) rfl,?_⟩;have el:(cB (aN S.E)).length=(aN S.E).R.length:=qY _;have el4:(cB S.E).length=S.E.R.length:=qY _;have Pv:=h.ahg;have e2:IntKind.wrap .i64 (((cB (aN S.E)).length:Int) - 1)=(((aN S.E).R.length - 1:Nat):Int):=by
   rw [el,IntKind.wrap_i64]; omega
  rw [e2];have hX1:RdX w1 p4 (cB S.E).length (S.E.R.map λx=>x.lit):=by have:=Sh hE4; rw [FR] at this; exact this
  have hX3:=hX1.ax YI λi hi q=>q (h.nr i (LU i hi));have hX5:=(hX3.ax A3 λ_ _ q=>q).ax k5 λ_ _ q=>q;have YJ:∀i,ob p4 i->t2 i≠3/\t2 i≠4:=λi hi=>by
   by_cases aM:i<w1.heap.size
   ·rw [JW i aM,h.nr i (LU i hi)]; decide
   ·by_cases hm:M' i
    ·rw [s2 i hm]; decide
    ·rw [z2 i (by omega) hm]; decide
  refine dP (az ag8 (YE h5.gr dS hX5 YJ (h.rwi hk.Ao) (by rw [el4]; exact r2) (by rw [el4]; exact Pv) hk.Sb hc4) λe w6 ⟨he,Wo,k6⟩=>⟨he,?_⟩);obtain ⟨h6,kT6⟩:=h5.vB k6 (λi hi=>hi.elim Or.inl λq=>Or.inr (Or.inl q)) {S with E:=aN S.E,cf:=S.cf+1,last:=(cV (S.E.R.drop ((aN S.E).R.length - 1)) S.last S.wb).1,wb:=(cV (S.E.R.drop ((aN S.E).R.length - 1)) S.last S.wb).2} rfl rfl Wo;refine ay (cT (x:=fW Y.g) (by rw [ag,ag]; exact h6.sb.cell 6) ?_);have hn9:∀i,ob p9 i->t2 i=0:=λi hi=>z2 i (hf9 i hi).1 (hf9 i hi).2;have hC9:cQ w6 p9 (dQ S.E).1.length (dQ S.E).1:=(((aL S9).ax A3 λ_ _ q=>q).ax k5 λ_ _ q=>q).ax k6 λi hi q=>by
   have:=hn9 i hi;rcases q with q | q<;>omega
  have sH:∀x∈(dQ S.E).1,Wi nv x:=by
   rcases hk.gE hc (by have:=hB.a; unfold cap at this; omega) with ⟨_,q,_⟩ | ⟨_,_,_,_,q⟩
   ·rw [hd] at q; cases q
   ·exact q
  refine dP (az amw (Wm h6.gr dS hC9 (by rw [r3]; rw [hk.Ao] at r4; omega) sH λi hi=>by rw [hn9 i hi]; decide) λe w7 ⟨he,hG7,k7⟩=>⟨he,?_⟩);obtain ⟨h7,kT7⟩:=h6.vB k7 (λi hi=>Or.inr (Or.inl hi)) {S with E:=aN S.E,cf:=S.cf+1,last:=(cV (S.E.R.drop ((aN S.E).R.length - 1)) S.last S.wb).1,wb:=(cV (S.E.R.drop ((aN S.E).R.length - 1)) S.last S.wb).2,sc:=(pG (dQ S.E).1 S.sc S.st c.d).1,st:=(pG (dQ S.E).1 S.sc S.st c.d).2} rfl rfl hG7;refine ay (cT (x:=fc Y.A) (by rw [ag,ag]; exact h7.sb.cell 1) ?_);refine dP (az agU (lN h7.gr.ok h7.gr.pa) λe w8 ⟨he,k8,hp8⟩=>⟨he,rfl,?_⟩);have hu:∀i,One Y.A.c i->t2 i=5:=λi hi=>by
   have cW:i=Y.A.c:=hi;rw [cW]; exact h7.gr.Se.2.1
  obtain ⟨h8,kT8⟩:=h7.vB k8 (λi hi=>Or.inr (Or.inr (hu i hi))) (bV c S) (by unfold bV; rw [if_neg (by rw [hd]; decide)]) (by unfold bV; rw [if_neg (by rw [hd]; decide)]) (by
   unfold bV; rw [if_neg (by rw [hd]; decide)];exact h7.gr.Si k8 hu hp8 h7.gr.kl)
  refine ⟨t2,h8,ug,?_⟩;have kq:af (Tn t2) w3 w8:=(((A3.ak k5).none.trans kT6 λ_ _ q=>q).trans kT7 λ_ _ q=>q).trans kT8 λ_ _ q=>q;exact Tz.trans kq λi hi q=>by unfold Tn at *; rw [<-ug i hi]; exact q
theorem ab5 (h:Sr t w Y c av nv kf S) (hr:S.E.rest=true) (hk:Sk av nv S.cf c.d S.E S.sc S.st S.wb S.last) (dS:nv<=1048576) (hB:Bd av nv S.cf) :
  Calls Tryz.prog 78 #[Pt Y.b] w λe w'=>e=.returned (.tuple #[])/\rC t w Y c av nv kf (eZ c S) w':=by
 refine (Nk (some ⟨Y.b,0,none⟩) w (λv w'=>v=.tuple #[]/\rC t w Y c av nv kf (eZ c S) w') ?_).mono λe w' ⟨v,he,hv,hk⟩=>⟨by rw [he,hv],hk⟩
 unfold V78;obtain ⟨M,hG,hM⟩:=h.en;have hA:=hB.a;have hB0:=hB.b0;refine ay (cN (x:=some ⟨Y.e,0,none⟩) (by rw [ag]; exact h.sb.cell 0) ?_);refine az Bu (mK hG hB0) λe w1 ⟨p4,c4,hc4,he,hE4,LU,k1⟩=>⟨p4,_,c4,he,?_⟩
 have h1:=h.aa k1;refine ay (cN (x:=some ⟨Y.e,0,none⟩) (by rw [ag]; exact h1.sb.cell 0) ?_);have YH:=hG.aa k1;refine az aha (Jh YH) λe w2 ⟨he,M',hA2⟩=>⟨_,he,?_⟩
 obtain ⟨t2,h2,JW,YI,z2,s2⟩:=h1.eng hM YH.lt hA2;have Tz:af (Tn t) w w2:=k1.none.trans YI λ_ _ q=>q;have ug:∀i,i<w.heap.size->t2 i=t i:=λi hi=>JW i (Nat.lt_of_lt_of_le hi k1.size);refine ay (cT (x:=fB Y.g) (by rw [ag,ag]; exact (h2.sb.drew).cell 7) ?_);have A3:af aq w2 w2.drew:=(af.refl aq w2).drew;have TA:=h2.aa A3;generalize w2.drew=w4 at *
 obtain ⟨M2,ab4,hM2⟩:=TA.en;refine ay (cN (x:=some ⟨Y.e,0,none⟩) (by rw [ag]; exact TA.sb.cell 0) ?_);refine az Bu (mK ab4 hB0) λe w5 ⟨TS,c22,_,he,amA,amB,k5⟩=>⟨TS,_,c22,he,?_⟩
 have h5:=TA.aa k5;refine ⟨cT (x:=fB Y.g) (by rw [ag,ag]; exact h5.sb.cell 7) rfl,?_⟩;have el:(cB (aR S.E).2).length=(aR S.E).2.R.length:=qY _;have el4:(cB S.E).length=S.E.R.length:=qY _;have Pv:=h.ahg;have hle:(aR S.E).2.R.length<=S.E.R.length:=by
  rw [(hk.aR hr).1]; exact ri _ _
 have hX1:RdX w1 p4 (cB S.E).length (S.E.R.map λx=>x.lit):=by have:=Sh hE4; rw [FR] at this; exact this
 have hX3:=hX1.ax YI λi hi q=>q (h.nr i (LU i hi));have hX5:=(hX3.ax A3 λ_ _ q=>q).ax k5 λ_ _ q=>q;have YJ:∀i,ob p4 i->t2 i≠3/\t2 i≠4:=λi hi=>by
  by_cases aM:i<w1.heap.size
  ·rw [JW i aM,h.nr i (LU i hi)]; decide
  ·by_cases hm:M' i
   ·rw [s2 i hm]; decide
   ·rw [z2 i (by omega) hm]; decide
 rw [el];refine dP (az ag8 (YE h5.gr dS hX5 YJ (h.rwi hk.Ao) (by rw [el4]; exact hle) (by rw [el4]; exact Pv) hk.Sb hc4) λe w6 ⟨he,Wo,k6⟩=>⟨he,?_⟩);let S1:SS:={S with E:=(aR S.E).2,last:=(cV (S.E.R.drop (aR S.E).2.R.length) S.last S.wb).1,wb:=(cV (S.E.R.drop (aR S.E).2.R.length) S.last S.wb).2}
 obtain ⟨h6,kT6⟩:=h5.vB k6 (λi hi=>hi.elim Or.inl λq=>Or.inr (Or.inl q)) S1 rfl rfl Wo;have kw6:af (Tn t) w w6:=Tz.trans ((A3.ak k5).none.trans kT6 λ_ _ q=>q) λi hi q=>by unfold Tn at *; rw [<-ug i hi]; exact q
 refine ay (cT (x:=fl Y.A) (by rw [ag,ag]; exact h6.sb.cell 3) ?_);refine dP (az agY (vv h6.gr.ok h6.gr.pa) λe w7 ⟨he,k7,hp7⟩=>⟨_,he,?_⟩);obtain ⟨p0,p1,p2,p3,p4',p5⟩:=h6.gr.Se;have hu:∀i,(i=Y.A.l\/i=Y.A.j)->t2 i=5:=λi hi=>by
  rcases hi with rfl | rfl
  ·exact p3
  ·exact p5
 cases g_:A4 c.f c.g S.n S.l S.j with
 | false=>
  have e1:eZ c S=S1:=by unfold eZ; rw [g_]; rfl
  have ab6:A4 c.f c.g S1.n S1.l S1.j=false:=g_;rw [ab6] at hp7;obtain ⟨h7,kT7⟩:=h6.vB k7 (λi hi=>Or.inr (Or.inr (hu i hi))) S1 rfl rfl (h6.gr.Si k7 hu hp7 h6.gr.kl);refine a_ rfl (a_ rfl (a_ rfl (aT rfl ⟨rfl,?_⟩)));rw [e1];exact ⟨t2,h7,ug,kw6.trans kT7 λi hi q=>by unfold Tn at *; rw [<-ug i hi]; exact q⟩
 | true=>
  have ab6:A4 c.f c.g S1.n S1.l S1.j=true:=g_;rw [ab6] at hp7;let S2:SS:={S1 with l:=S.n,j:=wr (S.j+1)}
  obtain ⟨h7,kT7⟩:=h6.vB k7 (λi hi=>Or.inr (Or.inr (hu i hi))) S2 rfl rfl (h6.gr.Si k7 hu hp7 h6.gr.kl);have Tt:af (Tn t) w w7:=kw6.trans kT7 λi hi q=>by unfold Tn at *; rw [<-ug i hi]; exact q
  refine aS rfl (ay (aS rfl (cN (x:=some ⟨Y.e,0,none⟩) (by rw [ag]; exact h7.sb.cell 0) ?_)));obtain ⟨M7,hG7,Ip⟩:=h7.en;refine aS rfl (az aeg (BI hG7) λe w8 ⟨he,M8,hA8⟩=>⟨_,he,?_⟩);have ahh:rC t2 w7 Y c av nv kf {S2 with E:=(spread S2.E).1} w8:=h7.Wp Ip hG7.lt hA8;refine aF (λmN=>?_) λmN=>?_
  ·have mN:(spread S1.E).2=true:=mN;obtain ⟨t8,h8,ht8,kT8⟩:=ahh;refine az ag7 (abY h8 hB) λe w9 ⟨he,hA9⟩=>⟨he,rfl,?_⟩
   have e1:eZ c S={S2 with E:=wM (spread S1.E).1}:=by unfold eZ; rw [g_,if_pos rfl,if_pos mN]
   rw [e1];exact rC.cons ug Tt (rC.cons ht8 kT8 hA9)
  ·have mN:(spread S1.E).2=false:=mN;have e1:eZ c S={S2 with E:=(spread S1.E).1}:=by
    unfold eZ; rw [g_,if_pos rfl,if_neg];show ¬(spread S1.E).2=true;rw [mN]; decide
   rw [e1];exact ⟨rfl,rC.cons ug Tt ahh⟩
end
end Sv
namespace Sv
open Go Vc T bp
open Trail (St upto)
open eR (jv rA gZ pF Wf gY iD PH HI FH)
open cS (A4 wr BQ l_ fc fr fl dP lN vv nW)
open bt (cQ aL aA bg aO aB Sl sv LL)
open bU (mF En)
section
variable {t t':Nat->Int} {w w' w1:World} {Y:Lay} {c:kN} {av:List (List Int)} {nv kf:Nat} {S S':SS}
theorem wO {e:ES} (hz:Iz e) (h:Gd av e):Gd av (spread e).1:=h.same (BH hz) (xD hz) hz.toInv.spread.2.log (rf hz)
theorem Ae (ls:List (List Int)) {d:Nat} {cf st:Nat} {sc:List Nat} {wb last:List Bool} : ∀(i:Nat) (e:ES),Sk av nv cf d e sc st wb last->Gd av e->Gd av (ki ls i e)
 | 0,e,_,h=>h
 | i+1,e,hk,h=>by
  unfold ki;split
  ·exact Ae ls i _ (hk.forget i) (h.forget hk.al i)
  ·exact Ae ls i _ hk h
def Prf (av:List (List Int)) (nv:Nat) (l:List (Bool×List Int)):Prop:=∃l' L,l=l'++[(false,[])]/\bp.Good av nv l' L/\mJ (av++L) []
theorem FT (dS:nv<=1048576) (hk:Sk av nv S.cf c.d S.E S.sc S.st S.wb S.last) (hg:Gd av S.E):(∀S',round c S=(S',none)->Gd av S'.E)/\∀S' o,round c S=(S',some o)->(o.fin=2->Prf av nv o.proof)/\(o.fin≠2->o.proof=[])/\(o.fin≠1->o.model=[])/\o.model.length<=nv/\o.proof.length<=2*(av.length+(S.cf+1)):=by
 have xd:=hk.spread;have hg1:=wO hk.iq.iz hg;have e0:(spread S.E).1.nv=nv:=xd.Ao;obtain ⟨f1,f2⟩:=oU hk.al;have lX:Gd av (aN (spread S.E).1):=hg1.gE xd.iq xd.al (by rw [e0]; exact dS);unfold round;dsimp only;cases mN:(bp.spread S.E).2 with
 | false=>
  rw [if_pos rfl];by_cases sL:0<=c.dh/\(S.cf:Int)=c.dh
  ·rw [if_pos sL];refine ⟨λS' q=>(by cases q),λS' o q=>?_⟩;cases q;exact ⟨λq=>(by cases q),λ_=>rfl,λ_=>rfl,Nat.zero_le _,Nat.zero_le _⟩
  ·rw [if_neg sL];have eE:(bV c {S with E:=(bp.spread S.E).1}).E=aN (bp.spread S.E).1:=by unfold bV; split<;>rfl
   by_cases hd:(bV c {S with E:=(bp.spread S.E).1}).E.dead=true
   ·rw [if_pos hd];refine ⟨λS' q=>(by cases q),λS' o q=>?_⟩;cases q;refine ⟨λ_=>?_,λq=>absurd rfl q,λ_=>rfl,Nat.zero_le _,?_⟩;rotate_left
    ·have hz:=(xd.sz.aN xd.iq).g;show (bV c {S with E:=(bp.spread S.E).1}).E.log.length<=_;rw [eE]; omega
    rw [eE] at hd;have:=lX.de hd;rw [zR,e0] at this;show Prf av nv (bV c {S with E:=(bp.spread S.E).1}).E.log;rw [eE]; exact this
   ·rw [if_neg hd];refine ⟨λS' q=>?_,λS' o q=>(by cases q)⟩;cases q;rw [eE]; exact lX
 | true=>
  rw [if_neg (by decide)];cases hm:fJ (bp.spread S.E).1 with
  | some m=>
   refine ⟨λS' q=>(by cases q),λS' o q=>?_⟩;cases q;exact ⟨λq=>(by cases q),λ_=>rfl,λq=>absurd rfl q,by have:=(vh hm).2.2.1; show m.length<=nv; omega,Nat.zero_le _⟩
  | none=>
   dsimp only;cases YB:cS.due c.bs S.n S.r S.k with
   | true=>
    rw [if_pos rfl];refine ⟨λS' q=>?_,λS' o q=>(by cases q)⟩;cases q;have qD:=xd;have Bi:Gd av (aR (bp.spread S.E).1).2:=hg1.aR;have hkr:=(qD.aR (f1 mN)).2;unfold eZ;dsimp only;split
    ·dsimp only;have hks:=hkr.spread;split
     ·exact Ae _ _ _ hks (wO hkr.iq.iz Bi)
     ·exact wO hkr.iq.iz Bi
    ·exact Bi
   | false=>
    rw [if_neg (by decide)];refine ⟨λS' q=>?_,λS' o q=>(by cases q)⟩;cases q;have hd:∀(nv:Nat) (sc:List Nat) (ph:Int) (last:List Bool) (e:ES),Gd av e->∀(t:Nat) (wb:List Bool),Gd av (vA nv sc ph last e t wb).1:=λnv sc ph last e he t=>by
     induction t with
     | zero=>intro wb; exact he
     | succ t ih=>
      intro wb;unfold vA;split
      ·exact he
      ·split
       ·exact he.dec _
       ·exact ih _
    exact hd _ _ _ _ _ hg1 _ _
def uh (w w':World) (v:Value) (o:Ou):Prop:=∃p n d q m d' gs,v=.agg #[I o.fin,.slice p n d,.slice q m d',I o.cf]/\bR w' 4 1 p n d (o.model.map Value.bool)/\(∀i,ob p i->w.heap.size<=i)/\PL (λi=>w.heap.size<=i) w' q m d' gs o.proof/\(p=none\/q=none)
theorem uh.ax {w1:World} {v:Value} {o:Ou} (h:uh w w' v o) {U:Nat->Prop} (hk:af U w' w1) (hU:∀i,w.heap.size<=i->i<w'.heap.size->¬U i):uh w w1 v o:=by
 obtain ⟨p,n,d,q,m,d',gs,h1,h2,h3,h4,h5⟩:=h;exact ⟨p,n,d,q,m,d',gs,h1,h2.ax hk λi hi=>hU i (h3 i hi) (h2.lt i hi),h3,h4.ax hk λi hi hm=>hU i hm hi,h5⟩
theorem uh.pre {w0:World} {v:Value} {o:Ou} (h:uh w w' v o) (hw:w0.heap.size<=w.heap.size):uh w0 w' v o:=by
 obtain ⟨p,n,d,q,m,d',gs,h1,h2,h3,h4,h5⟩:=h;exact ⟨p,n,d,q,m,d',gs,h1,h2,λi hi=>Nat.le_trans hw (h3 i hi),h4.mono λi _ hi=>Nat.le_trans hw hi,h5⟩
abbrev O0:Value:=.agg #[I 0,.slice none 0 0,.slice none 0 0,I 0]
theorem sN {w:World} {b:Nat} {cs:List Value} {a d:Int} {p q:Option Addr} {n m c1 c2:Nat} {K:World->Prop} (hl:cs.length=4) (hB:b_ w b cs 33)
  (hK:∀w',b_ w' b [I a,.slice p n c1,.slice q m c2,I d] 33->af (One b) w w'->K w') :
  st w ((⟨b,0,none⟩:Addr).add 0) (I a) λw1=>st w1 ((⟨b,0,none⟩:Addr).add 1) (.slice p n c1) λw2=>st w2 ((⟨b,0,none⟩:Addr).add 2) (.slice q m c2) λw3=>st w3 ((⟨b,0,none⟩:Addr).add 3) (I d) K:=by
 match cs,hl with
 | [x0,x1,x2,x3],_=>
 simp only [ag,Nat.zero_add];refine aG hB (by simp) rfl λw1 h1 k1 _=>aG h1 (by simp) rfl λw2 h2 k2 _=>aG h2 (by simp) rfl λw3 h3 k3 _=>aG h3 (by simp) rfl λw4 h4 k4 _=>hK w4 h4 ?_;exact ((k1.trans k2 λ_ _ q=>q).trans k3 λ_ _ q=>q).trans k4 λ_ _ q=>q
theorem oV {w:World} {b:Nat} {a d:Int} {p q:Option Addr} {n m c1 c2:Nat} {K:Int->Option Addr->Nat->Nat->Option Addr->Nat->Nat->Int->Prop} (hB:b_ w b [I a,.slice p n c1,.slice q m c2,I d] 33) (hK:K a p n c1 q m c2 d) :
  aW .i64 w ((⟨b,0,none⟩:Addr).add 0) λx1=>aZ w ((⟨b,0,none⟩:Addr).add 1) λy y1 y2=>aZ w ((⟨b,0,none⟩:Addr).add 2) λz z1 z2=>aW .i64 w ((⟨b,0,none⟩:Addr).add 3) λx2=>K x1 y y1 y2 z z1 z2 x2:=by
 simp only [ag,Nat.zero_add];exact ah (hB.cell 0) (au (hB.cell 1) (au (hB.cell 2) (ah (hB.cell 3) hK)))
theorem Sr.ahi (h:Sr t w Y c av nv kf S) (x:Nat) {K:World->Prop} (hK:∀w',Sr t w' Y c av nv x S->af (Tn t) w w'->K w'):st w (((⟨Y.b,0,none⟩:Addr).add 8).add 0) (I x) K:=by
 rw [ag,ag];refine aG h.sb (by simp) rfl λw' hb k1 _=>hK w' ?_ (k1.mono λi _ hi=>by have cW:i=Y.b:=hi; unfold Tn; rw [cW,h.bO]; decide);obtain ⟨M,hG,hM⟩:=h.en;have um:=h.bO;refine ⟨hb,um,h.gr.ax k1 λi hi=>?_,⟨M,hG.ax k1 λi hi q=>?_,hM⟩,λi hi=>h.nr i (Nat.le_trans k1.size hi)⟩
 ·have cW:i=Y.b:=hi;rw [cW,um]; decide
 ·have cW:i=Y.b:=hi;have:=hM i q;rw [cW,um] at this; omega
def Ji (t:Nat->Int) (w:World) (Y:Lay) (c:kN) (av:List (List Int)) (nv:Nat) (S:SS) (v:Value) (w':World):Prop:=
 (∃S',round c S=(S',none)/\v=.tuple #[O0,.bool false]/\rC t w Y c av nv S'.cf S' w')\/∃S' o v',round c S=(S',some o)/\v=.tuple #[v',.bool true]/\uh w w' v' o/\af (Tn t) w w'
theorem ab7 (h:Sr t w Y c av nv S.cf S) (dS:nv<=1048576) (hk:Sk av nv S.cf c.d S.E S.sc S.st S.wb S.last) (hg:Gd av S.E) (hB:Bd av nv S.cf) (XI:S.cf<=126877575) (sL : -9223372036854775808<=c.dh/\c.dh<=9223372036854775807) :
  Calls Tryz.prog 38 #[Pt Y.b] w λe w'=>∃v,e=.returned v/\Ji t w Y c av nv S v w':=by
 refine Ni (some ⟨Y.b,0,none⟩) w (Ji t w Y c av nv S) ?_;unfold V38;have hrg:=(FT dS hk hg)
 have xd:=hk.spread;obtain ⟨f1,f2⟩:=oU hk.al;refine aD λb2 w1 rN bH k1=>?_;have h1:=h.aa k1;have tb2:t b2=0:=h.nr b2 (by omega);refine ay (cN (x:=some ⟨Y.e,0,none⟩) (by rw [ag]; exact h1.sb.cell 0) ?_);obtain ⟨M,hG,hM⟩:=h1.en;refine az aeg (BI hG) λe w2 ⟨he,M',hA⟩=>⟨_,he,?_⟩
 obtain ⟨t2,h2,JW,YI⟩:=h1.Wp hM hG.lt hA;have amC:=bH.lt;have Db:t2 b2=0:=(JW b2 amC).trans tb2;have bH:b_ w2 b2 _ 33:=bH.ax YI λq=>q tb2;have Tz:af (Tn t) w w2:=k1.none.trans YI λ_ _ q=>q;have ug:∀i,i<w.heap.size->t2 i=t i:=λi hi=>JW i (Nat.lt_of_lt_of_le hi k1.size);have tn2:∀i,i<w.heap.size->Tn t2 i->Tn t i:=λi hi q=>by unfold Tn at *; rw [<-ug i hi]; exact q
 have ao8:w.heap.size<=b2:=by omega
 -- U8 is put ao9 yf variable alone,amD nothing
 have kb:∀{u v:World},af (One b2) u v->af (λi=>w.heap.size<=i) u v:=λhk=>hk.mono λi _ hi=>by have cW:i=b2:=hi; omega
 have Nw:∀{u v:World},af (Tn t) w u->af (One b2) u v->af (Tn t) w v:=λha hk=>ha.trans hk λi hi q=>by have cW:i=b2:=q; omega
 have srb:∀{u v:World} {tt:Nat->Int} {k:Nat} {X:SS},Sr tt u Y c av nv k X->tt b2=0->af (One b2) u v->Sr tt v Y c av nv k X:=λhS hz hk=>hS.ax hk λi hi=>by have cW:i=b2:=hi; rw [cW]; exact hz
 unfold Ji;cases mN:(spread S.E).2 with
 | false=>
  refine aX rfl ?_;have A3:af aq w2 w2.drew:=(af.refl aq w2).drew;have TA:=h2.aa A3;have AV:=bH.aa A3;have ahj:af (Tn t) w w2.drew:=Tz.ak A3;generalize w2.drew=w3 at *
  have cb:w3.cell? ((⟨Y.b,0,none⟩:Addr).add 9)=some (I c.dh):=by rw [ag]; exact TA.sb.cell 9
  have cc:w3.cell? ((⟨Y.b,0,none⟩:Addr).add 8)=some (I (S.cf:Int)):=by rw [ag]; exact TA.sb.cell 8
  refine ay (ah cb ?_);have VB:(0<=c.dh/\(S.cf:Int)=c.dh)->nn (some (⟨Y.b,0,none⟩:Addr)) λLN=>aW .i64 w3 (LN.add 9) λiV=>
   st w3 ((⟨b2,0,none⟩:Addr).add 0) (.int .i64 3) λw3=>st w3 ((⟨b2,0,none⟩:Addr).add 1) (.slice none 0 0) λw4=>st w4 ((⟨b2,0,none⟩:Addr).add 2) (.slice none 0 0) λw5=>st w5 ((⟨b2,0,none⟩:Addr).add 3) (.int .i64 iV) λw6=>
   aW .i64 w6 ((⟨b2,0,none⟩:Addr).add 0) λiT=>aZ w6 ((⟨b2,0,none⟩:Addr).add 1) λjj AE Ci=>aZ w6 ((⟨b2,0,none⟩:Addr).add 2) λiI ir jB=>aW .i64 w6 ((⟨b2,0,none⟩:Addr).add 3) λjN=>
   Ji t w Y c av nv S (.tuple #[.agg #[.int .i64 iT,.slice jj AE Ci,.slice iI ir jB,.int .i64 jN],.bool true]) w6:=λhq=>by
   refine ay (ah cb (sN rfl AV λw4 gJ k4=>oV gJ ?_));have er:round c S=({S with E:=(spread S.E).1},some ⟨3,[],[],c.dh⟩):=by unfold round; dsimp only; rw [mN,if_pos rfl,if_pos hq]
   exact Or.inr ⟨_,_,_,er,rfl,⟨none,0,0,none,0,0,[],rfl,bR.nil _ _ _,λi ⟨_,q,_⟩=>(by cases q),PL.nil _ _,Or.inl rfl⟩,Nw ahj k4⟩
  have ahk:¬(0<=c.dh/\(S.cf:Int)=c.dh)->nn (some (⟨Y.b,0,none⟩:Addr)) λp30=>aW .i64 w3 (p30.add 8) λuJ=>nn (some (⟨Y.b,0,none⟩:Addr)) λp32=>
   st w3 ((p32.add 8).add 0) (.int .i64 (IntKind.wrap .i64 (uJ+1))) λw7=>
   cl Tryz.prog 74 [.pointer (some ⟨Y.b,0,none⟩)] w7 λe34 w8=>e34=Ending.returned (.tuple #[])/\
   nn (some (⟨Y.b,0,none⟩:Addr)) λAJ=>
   iF w8 (AJ.add 0) λnh=>
   cl Tryz.prog 75 [.pointer nh] w8 λe39 w9=>∃pg:Bool,e39=Ending.returned (.bool pg)/\
   bC pg (
    nn (some (⟨Y.b,0,none⟩:Addr)) λG_=>
    iF (World.drew w9) (G_.add 0) λtY=>
    nn (some (⟨Y.b,0,none⟩:Addr)) λp42=>
    aW .i64 (World.drew w9) (p42.add 8) λpL=>
    cl Tryz.prog 76 [.pointer tY] (World.drew w9) λe45 cK=>∃(j_:Option Addr) (gM iJ:Nat),e45=Ending.returned (.slice j_ gM iJ)/\
    (
     aW .i64 cK (p42.add 8) λtX=>
     ((.int .i64 tX:Value)=.int .i64 pL))/\
    st cK ((⟨b2,0,none⟩:Addr).add 0) (.int .i64 2) λdB=>
    st dB ((⟨b2,0,none⟩:Addr).add 1) (.slice none 0 0) λdF=>
    st dF ((⟨b2,0,none⟩:Addr).add 2) (.slice j_ gM iJ) λeA=>
    st eA ((⟨b2,0,none⟩:Addr).add 3) (.int .i64 pL) λeG=>
    aW .i64 eG ((⟨b2,0,none⟩:Addr).add 0) λnA=>
    aZ eG ((⟨b2,0,none⟩:Addr).add 1) λCC Qr Qs=>
    aZ eG ((⟨b2,0,none⟩:Addr).add 2) λng uE uF=>
    aW .i64 eG ((⟨b2,0,none⟩:Addr).add 3) λvY=>
    Ji t w Y c av nv S (.tuple #[.agg #[.int .i64 nA,.slice CC Qr Qs,.slice ng uE uF,.int .i64 vY],.bool true]) eG) (
    st w9 ((⟨b2,0,none⟩:Addr).add 0) (.int .i64 0) λgT=>
    st gT ((⟨b2,0,none⟩:Addr).add 1) (.slice none 0 0) λeM=>
    st eM ((⟨b2,0,none⟩:Addr).add 2) (.slice none 0 0) λfe=>
    st fe ((⟨b2,0,none⟩:Addr).add 3) (.int .i64 0) λgB=>
    aW .i64 gB ((⟨b2,0,none⟩:Addr).add 0) λxN=>
    aZ gB ((⟨b2,0,none⟩:Addr).add 1) λAK qK sG=>
    aZ gB ((⟨b2,0,none⟩:Addr).add 2) λvG vZ v8=>
    aW .i64 gB ((⟨b2,0,none⟩:Addr).add 3) λBq=>
    Ji t w Y c av nv S (.tuple #[.agg #[.int .i64 xN,.slice AK qK sG,.slice vG vZ v8,.int .i64 Bq],.bool false]) gB):=λhq=>by
   refine ay (ah cc (ay ?_));have ew:IntKind.wrap .i64 ((S.cf:Int)+1)=((S.cf+1:Nat):Int):=by rw [IntKind.wrap_i64]; omega
   rw [ew];refine TA.ahi (S.cf+1) λw7 h7 k7=>?_;let S1:SS:={S with E:=(spread S.E).1}
   have mU:b_ w7 b2 _ 33:=AV.ax k7 λq=>q Db;have Tt:af (Tn t) w w7:=ahj.trans k7 tn2;refine az amr (ab3 (S:=S1) h7 (f2 mN) xd dS hB) λe w8 ⟨he,t8,h8,ht8,kT8⟩=>⟨he,?_⟩
   have amE:t8 b2=0:=(ht8 b2 mU.lt).trans Db;have TB:b_ w8 b2 _ 33:=mU.ax kT8 λq=>q Db;have kw8:af (Tn t) w w8:=Tt.trans kT8 tn2;obtain ⟨M8,hG8,hM8⟩:=h8.en;refine ay (cN (x:=some ⟨Y.e,0,none⟩) (by rw [ag]; exact h8.sb.cell 0) ?_);refine az aek (KC hG8) λe w9 ⟨he,hw⟩=>⟨_,he,?_⟩
   subst hw;have ecf:(bV c S1).cf=S.cf+1:=by unfold bV; split<;>rfl
   refine aF (λhd=>?_) λhd=>?_
   ·have er:round c S=(bV c S1,some ⟨2,[],(bV c S1).E.log,((S.cf+1:Nat):Int)⟩):=by unfold round; dsimp only; rw [mN,if_pos rfl,if_neg hq,if_pos hd]
    have kd9:af aq w9 w9.drew:=(af.refl aq w9).drew;have h9:=h8.aa kd9;have hG9:=hG8.aa kd9;have JK:=TB.aa kd9;have kw9:=kw8.ak kd9;generalize w9.drew=cK at *
    have cc9:cK.cell? ((⟨Y.b,0,none⟩:Addr).add 8)=some (I ((S.cf+1:Nat):Int)):=by rw [ag]; exact h9.sb.cell 8
    refine ay (cN (x:=some ⟨Y.e,0,none⟩) (by rw [ag]; exact h9.sb.cell 0) (ay (ah cc9 ?_)));obtain ⟨l',L,el,hgd,_⟩:=((hrg.2 _ _ er).1 rfl)
    have el':(bV c S1).E.log=l'++[(false,[])]:=el;have pM:∀x∈(bV c S1).E.log,x.2.length<=1048576:=λx hx=>by
     rw [el'] at hx;rcases List.mem_append.1 hx with hx | hx
     ·exact (hgd.lits.1 x hx).1
     ·simp only [List.mem_singleton] at hx; subst hx; exact Nat.zero_le _
    refine az amx (ab1 hG9 (by rw [ecf]; exact hB.a) pM) λe dB ⟨p,n,d,gs,he,hP,gF⟩=>⟨p,n,d,he,ah (by rw [ag]; exact (h9.aa gF).sb.cell 8) rfl,?_⟩
    refine sN rfl (JK.aa gF) λdF qH fF=>oV qH ?_;refine Or.inr ⟨_,_,_,er,rfl,⟨none,0,0,p,n,d,gs,rfl,bR.nil _ _ _,λi ⟨_,q,_⟩=>(by cases q),?_,Or.inl rfl⟩,Nw (kw9.ak gF) fF⟩;have hz:=kw9.size;have uk:=JK.lt;exact (hP.ax fF λi _ hm hi=>by have cW:i=b2:=hi; omega).mono λi _ hm=>Nat.le_trans hz hm
   ·have hd:(bV c S1).E.dead=false:=hd;have er:round c S=(bV c S1,none):=by unfold round; dsimp only; rw [mN,if_pos rfl,if_neg hq,if_neg (by show ¬(bV c S1).E.dead=true; rw [hd]; decide)]
    refine sN rfl TB λdF qH fF=>oV qH ?_;refine Or.inl ⟨_,er,rfl,t8,?_,λi hi=>(ht8 i (by have:=Tt.size; omega)).trans (ug i hi),Nw kw8 fF⟩;rw [ecf];exact srb h8 amE fF
  by_cases wC:0<=c.dh
  ·have hd:decide (c.dh >= 0)=true:=decide_eq_true wC;rw [hd];refine aS rfl (ay (aS rfl (ah cc (aS rfl (ay (aS rfl (ah cb ?_)))))));by_cases hq:(S.cf:Int)=c.dh
   ·exact aX (by show cond true ((S.cf:Int)==c.dh) false=true; rw [hq]; simp) (VB ⟨wC,hq⟩)
   ·exact aT (by show cond true ((S.cf:Int)==c.dh) false=false; simp [hq]) (ahk λq=>hq q.2)
  ·have hd:decide (c.dh >= 0)=false:=decide_eq_false wC;rw [hd];exact a_ rfl (a_ rfl (a_ rfl (a_ rfl (aT rfl (ahk λq=>wC q.1)))))
 | true=>
  refine aT rfl ?_;let S1:SS:={S with E:=(spread S.E).1}
  have h2:Sr t2 w2 Y c av nv S.cf S1:=h2;obtain ⟨M2,hG2,hM2⟩:=h2.en;refine ay (cN (x:=some ⟨Y.e,0,none⟩) (by rw [ag]; exact h2.sb.cell 0) ?_);refine az aka (RN hG2) λe w3 hh=>?_;rcases hh with ⟨hm,he,k3⟩ | ⟨m,p,d,hm,RB,he,hO,hf,k3⟩
  ·refine ⟨none,0,0,false,he,aT rfl ?_⟩;have h3:=h2.aa k3;have bP:=bH.aa k3;refine ay (cT (x:=fr Y.A) (by rw [ag,ag]; exact h3.sb.cell 2) ?_);refine dP (az agW (nW h3.gr.ok h3.gr.pa h3.gr.kl) λe w4 ⟨he,k4,YJ⟩=>⟨_,he,?_⟩);obtain ⟨p0,p1,p2,p3,p4',p5⟩:=h3.gr.Se;have hu:∀i,(i=Y.A.r\/i=Y.A.k)->t2 i=5:=λi hi=>by
    rcases hi with rfl | rfl
    ·exact p2
    ·exact p4'
   have kl1:wr (S.k+1)<9223372036854775808:=cS.DU _;cases YB:cS.due c.bs S.n S.r S.k with
   | true=>
    have ab8:cS.due c.bs S1.n S1.r S1.k=true:=YB;rw [ab8] at YJ;let S2:SS:={S1 with r:=S.n,k:=wr (S.k+1)}
    obtain ⟨h4,kT4⟩:=h3.vB k4 (λi hi=>Or.inr (Or.inr (hu i hi))) S2 rfl rfl (h3.gr.Si k4 hu YJ kl1);have gJ:b_ w4 b2 _ 33:=bP.ax kT4 λq=>q Db;have kw4:af (Tn t) w w4:=(Tz.ak k3).trans kT4 tn2;refine aX rfl ?_;refine az ams (ab5 (S:=S2) h4 (f1 mN) xd dS hB) λe w5 ⟨he,t5,h5,ht5,kT5⟩=>⟨he,?_⟩
    have oe:b_ w5 b2 _ 33:=gJ.ax kT5 λq=>q Db;have ab9:t5 b2=0:=(ht5 b2 gJ.lt).trans Db;refine sN rfl oe λdF qH fF=>oV qH ?_;have er:round c S=(eZ c S2,none):=by
     unfold round; dsimp only; rw [mN,if_neg (by decide)];rw [show fJ (spread S.E).1=none from hm];dsimp only;rw [YB,if_pos rfl]
    have ecf:(eZ c S2).cf=S.cf:=by unfold eZ; dsimp only; split<;>rfl
    refine Or.inl ⟨_,er,rfl,t5,?_,λi hi=>(ht5 i (by have:=kw4.size; omega)).trans (ug i hi),Nw (kw4.trans kT5 tn2) fF⟩;rw [ecf];exact srb h5 ab9 fF
   | false=>
    have ab8:cS.due c.bs S1.n S1.r S1.k=false:=YB;rw [ab8] at YJ;obtain ⟨h4,kT4⟩:=h3.vB k4 (λi hi=>Or.inr (Or.inr (hu i hi))) S1 rfl rfl (h3.gr.Si k4 hu YJ h3.gr.kl);have gJ:b_ w4 b2 _ 33:=bP.ax kT4 λq=>q Db;have kw4:af (Tn t) w w4:=(Tz.ak k3).trans kT4 tn2;refine aT rfl ?_;refine az amt (Wq (S:=S1) h4 dS xd.Ao xd.Sb) λe w5 ⟨he,t5,h5,ht5,kT5⟩=>⟨he,?_⟩
    have oe:b_ w5 b2 _ 33:=gJ.ax kT5 λq=>q Db;have ab9:t5 b2=0:=(ht5 b2 gJ.lt).trans Db;refine sN rfl oe λdF qH fF=>oV qH ?_;have er:round c S=(pH c S1,none):=by
     unfold round; dsimp only; rw [mN,if_neg (by decide)];rw [show fJ (spread S.E).1=none from hm];dsimp only;rw [YB,if_neg (by decide)]
    refine Or.inl ⟨_,er,rfl,t5,?_,λi hi=>(ht5 i (by have:=kw4.size; omega)).trans (ug i hi),Nw (kw4.trans kT5 tn2) fF⟩;exact srb h5 ab9 fF
  ·refine ⟨p,_,d,true,he,aX rfl ?_⟩;have h3:=h2.aa k3;have bP:=bH.aa k3;refine ay (ah (x:=(S.cf:Int)) (by rw [ag]; exact h3.sb.cell 8) ?_);refine sN rfl bP λdF qH fF=>oV qH ?_;have er:round c S=(S1,some ⟨1,m,[],S.cf⟩):=by
    unfold round; dsimp only; rw [mN,if_neg (by decide)];rw [show fJ (spread S.E).1=some m from hm]
   have hz:=Tz.size;have uk:=bH.lt;refine Or.inr ⟨_,_,_,er,rfl,⟨p,_,d,none,0,0,[],rfl,hO.ax fF λi hi q=>?_,λi hi=>Nat.le_trans hz (hf i hi),PL.nil _ _,Or.inr rfl⟩,Nw (Tz.ak k3) fF⟩;have cW:i=b2:=q;have:=hf i hi;omega
end
end Sv
namespace Sv
open Go Vc T bp
open Trail (St upto)
open eR (jv rA gZ pF Wf gY iD PH HI FH rj Pb made)
open cS (A4 wr BQ l_ fc fr fl dP lN vv nW Je formed)
open bt (cQ aL aA bg aO aB Sl sv LL)
open bU (mF En)
theorem KV {b f g:Int} {d:Nat} {ph:Int} (hf:formed b f g d ph=true) {nv:Nat} (dS:nv<=1048576):rj nv d=true:=by
 unfold formed at hf;unfold rj;simp only [Bool.and_eq_true,decide_eq_true_eq] at hf ⊢;exact ⟨⟨by omega,by omega⟩,hf.1.2⟩
theorem ahl {nv:Nat} (dS:nv<=1048576) {b f g:Int} {d:Nat} {ph dh:Int} (hf:formed b f g d ph=true) (w:World) :
  Calls Tryz.prog 37 #[I nv,.agg #[I b,I f,I g,.float .f64 d,I ph,I dh]] w λe w'=>∃(Q:HI) (A:BQ) (gb:Nat) (lb:Sl) (t:Nat->Int),e=.returned (.agg #[fc A,fr A,fl A,fT gb,fP gb,fW gb,fB gb])/\af aq w w'/\
   (∀i,t i≠0->w.heap.size<=i/\i<w'.heap.size/\t i≠1/\t i≠6)/\∀(y e:Nat) (c:kN),c.bs=b->c.f=f->c.g=g->c.d=d->c.ph=ph->Gr t w' ⟨y,e,gb,Q,A,lb⟩ c nv (List.replicate nv 0) 4607182418800017408 (List.replicate nv true) (List.replicate nv false) 0 0 0 1 0:=by
 let G:Value->World->Prop:=λv w'=>∃(Q:HI) (A:BQ) (gb:Nat) (lb:Sl) (t:Nat->Int),v=.agg #[fc A,fr A,fl A,fT gb,fP gb,fW gb,fB gb]/\af aq w w'/\
   (∀i,t i≠0->w.heap.size<=i/\i<w'.heap.size/\t i≠1/\t i≠6)/\∀(y e:Nat) (c:kN),c.bs=b->c.f=f->c.g=g->c.d=d->c.ph=ph->Gr t w' ⟨y,e,gb,Q,A,lb⟩ c nv (List.replicate nv 0) 4607182418800017408 (List.replicate nv true) (List.replicate nv false) 0 0 0 1 0
 refine (Nh nv b f g d ph dh w G ?_).mono λe w' ⟨v,he,Q,A,gb,lb,t,hv,hh⟩=>⟨Q,A,gb,lb,t,by rw [he,hv],hh⟩
 unfold V37;refine aD λb2 w1 rN bH k1=>aD λb3 w2 R7 bP k2=>?_;have apa:=bP.lt;have bH:=bH.aa k2;have uP:=k1.ak k2;simp only [ag,Nat.zero_add,Nat.add_zero];refine dY (bH.cell 3) ?_;refine az amc (Pb (nv:Int) d w2 (by omega)) λe w3 ⟨v,he,hN⟩=>?_;obtain ⟨Q,rfl,k3,hQ,hP⟩:=made hN (KV hf dS);refine ⟨_,_,he,?_⟩;have bH:=bH.aa k3;have bP:=bP.aa k3;refine ah (bH.cell 0) (ah (bH.cell 1) (ah (bH.cell 2) (dY (bH.cell 3) (ah (bH.cell 4) (ah (bH.cell 5) ?_)))));refine az amn (Je b f g d ph dh w3) λe w4 ⟨v,he,k4,hM⟩=>?_;rcases hM with ⟨GI,_⟩ | ⟨_,A,YG,hAo,rfl,hA⟩
 ·rw [hf] at GI; cases GI
 refine ⟨_,_,_,_,he,?_⟩;have bH:=bH.aa k4;have bP:=bP.aa k4;have hQl:=hP.lt;have uX:=(uP.ak k3).ak k4;have hP:=hP.ax k4 λ_ _ q=>q;refine aD λGb w5 afM pO k5=>?_;refine aG pO (by simp) rfl λw6 pO k6 z6=>aG pO (by simp) rfl λw7 pO k7 z7=>aG pO (by simp) rfl λw8 pO k8 z8=>?_;have k48:af aq w4 w8:=((k5.bw k6 (by omega)).bw k7 (by omega)).bw k8 (by omega);have hl5:Gb<w5.heap.size:=by have:=pO.lt; omega
 have k4d:af aq w4 w8.drew:=k48.ak (af.refl aq w8).drew;have z8d:w8.drew.heap.size=w8.heap.size:=rfl;have pO:=pO.drew;generalize w8.drew=w9 at *
 have bH:=bH.aa k4d;have bP:=bP.aa k4d;refine ah (bH.cell 4) ?_;refine wY Tryz.underlying30 (z:=.bool false) (B:=1) (by kernel_rfl) rfl (by omega) (by omega) (by omega) λvb cK hvb hV fD=>?_;rw [Int.toNat_natCast] at hV ⊢;have lV0:=hV.lt;have bH:=bH.aa fD;refine ⟨ah (bH.cell 4) rfl,?_⟩;refine aD λuD dB apb ahm gF=>?_;have pO:=(pO.aa fD).aa gF;have bP:=(bP.aa fD).aa gF;have hV:=hV.aa gF;refine cT (pO.cell 0) (cT (pO.cell 1) (cT (pO.cell 2) ⟨⟨rfl,rfl,rfl,rfl,rfl,rfl,rfl,trivial⟩,?_⟩));have k4e:=(k4d.ak fD).ak gF;have s1:=k1.size; have s3:=k3.size; have s4:=k4.size; have s4d:=k4d.size; have s10:=fD.size; have s11:=gF.size; have s02:=uP.size; have s2:=k2.size;have l3:=bP.lt; have lV:=hV.lt; have l25:=ahm.lt;obtain ⟨o1,o2,o3,o4,o5,o6⟩:=hAo;refine aG bP (by simp) rfl λu1 bP q1 y1=>aG bP (by simp) rfl λu2 bP q2 y2=>aG bP (by simp) rfl λu3 bP q3 y3=>aG bP (by simp) rfl λu4 bP q4 y4=>aG bP (by simp) rfl λu5 bP q5 y5=>aG bP (by simp) rfl λu6 bP q6 y6=>aG bP (by simp) rfl λu7 bP q7 y7=>?_;have kq:af (One b3) dB u7:=(((((q1.trans q2 λ_ _ q=>q).trans q3 λ_ _ q=>q).trans q4 λ_ _ q=>q).trans q5 λ_ _ q=>q).trans q6 λ_ _ q=>q).trans q7 λ_ _ q=>q;refine cT (bP.cell 0) (cT (bP.cell 1) (cT (bP.cell 2) (cT (bP.cell 3) (cT (bP.cell 4) (cT (bP.cell 5) (cT (bP.cell 6) ?_))))));have sq:=kq.size;let t:Nat->Int:=λi=>open Classical in if i=uD then 2 else if i=vb then 3 else if Q.F i then 4 else if i=A.f\/i=A.c\/i=A.r\/i=A.l\/i=A.k\/i=A.j then 5 else 0;have tv:∀i,t i=open Classical in if i=uD then 2 else if i=vb then 3 else if Q.F i then 4 else if i=A.f\/i=A.c\/i=A.r\/i=A.l\/i=A.k\/i=A.j then 5 else 0:=λi=>rfl
 have hQ2:∀i,Q.F i->w2.heap.size<=i/\i<w3.heap.size:=λi hi=>⟨hQ i hi,hQl i hi⟩
 have t25:t uD=2:=by rw [tv,if_pos rfl]
 have tvb:t vb=3:=by rw [tv,if_neg (by omega),if_pos rfl]
 have tQ:∀i,Q.F i->t i=4:=λi hi=>by
  have:=hQ2 i hi;rw [tv,if_neg (by omega),if_neg (by omega),if_pos hi]
 have tA:∀i,w3.heap.size<=i->i<w4.heap.size->(i=A.f\/i=A.c\/i=A.r\/i=A.l\/i=A.k\/i=A.j)->t i=5:=λi h1 h2 hi=>by
  rw [tv,if_neg (by omega),if_neg (by omega),if_neg (λq=>by have:=hQ2 i q; omega),if_pos hi]
 refine ⟨Q,A,uD,(some ⟨vb,0,none⟩,nv,nv),t,rfl,(uX.ak k4e).bw kq (by omega),λi hi=>?_,λy e c h1 h2 h3 h4 h5=>?_⟩
 ·rw [tv] at hi ⊢;split
  ·rename_i hh; subst hh; exact ⟨by omega,by omega,by decide,by decide⟩
  ·split
   ·rename_i hh; subst hh; exact ⟨by omega,by omega,by decide,by decide⟩
   ·split
    ·rename_i hh; have:=hQ2 i hh; exact ⟨by omega,by omega,by decide,by decide⟩
    ·split
     ·rename_i hh;refine ⟨?_,?_,by decide,by decide⟩
      ·rcases hh with rfl | rfl | rfl | rfl | rfl | rfl<;>omega
      ·rcases hh with rfl | rfl | rfl | rfl | rfl | rfl<;>omega
     ·rename_i n1 n2 n3 n4;rw [if_neg n1,if_neg n2,if_neg n3,if_neg n4] at hi;exact absurd rfl hi
 ·subst h1 h2 h3 h4 h5;have nb:∀{i:Nat},i≠b3->¬One b3 i:=λh q=>h q;refine ⟨ahm.ax kq (nb (by omega)),t25,?_,λi ⟨a,ha,hi⟩=>?_,?_,tQ,?_,⟨tA A.f YG (by omega) (Or.inl rfl),tA A.c (by omega) (by omega) (Or.inr (Or.inl rfl)),tA A.r (by omega) (by omega) (Or.inr (Or.inr (Or.inl rfl))),tA A.l (by omega) (by omega) (Or.inr (Or.inr (Or.inr (Or.inl rfl)))),tA A.k (by omega) (by omega) (Or.inr (Or.inr (Or.inr (Or.inr (Or.inl rfl))))),tA A.j (by omega) (by omega) (Or.inr (Or.inr (Or.inr (Or.inr (Or.inr rfl)))))⟩,⟨o1,o2,o3,o4,o5,Nat.lt_succ_self _⟩,by decide⟩
  ·refine Or.inr ⟨vb,_,rfl,hV.ax kq (nb (by omega)),Nat.le_refl _,by simp only [maxLen]; omega,by simp,?_⟩;rw [List.map_replicate,List.take_of_length_le (by simp)]
  ·injection ha with ha;rw [<-hi,<-ha]; exact tvb
  ·exact (hP.ax k4e λ_ _ q=>q).ax kq λi hi=>nb (by have:=hQ2 i hi; omega)
  ·exact ((hA.ax k4e (λq=>q) (λq=>q) (λq=>q) (λq=>q) (λq=>q) (λq=>q))).ax kq (nb (show A.c≠b3 by omega)) (nb (show A.r≠b3 by omega)) (nb (show A.l≠b3 by omega)) (nb (show A.k≠b3 by omega)) (nb (show A.j≠b3 by omega)) (nb (show A.f≠b3 by omega))
end Sv
namespace Sv
open Go Vc T bp
open Trail (St upto)
open eR (jv rA gZ pF Wf gY iD PH HI FH rj Pb made)
open cS (A4 wr BQ l_ fc fr fl dP lN vv nW Je formed Ab jd lub)
open bt (cQ aL aA bg aO aB Sl sv LL)
open bU (mF En)
theorem Sn {c:kN} {nv:Nat} {av:List (List Int)} (hc:Co c nv av.length) (hl:∀es∈av,es.length<=1048576) (hw:∀es∈av,∀x∈es,Wi nv x) (hwf:Wf nv (List.replicate nv 0) 4607182418800017408 c.d (List.replicate nv true)) :
  Sv c av nv (start nv av)/\Gd av (start nv av).E:=by
 obtain ⟨_,h1,h2,h3,h4,h5,h6,h7,h8,h9⟩:=oI hc.nvl hc.nl hl hw;have pW:aU (jc nv av)=[]:=by unfold aU; rw [h4]; rfl
 have um:=hc.b1;refine ⟨⟨⟨KA hc.nvl hc.nl hl hw,h1,hwf,List.length_replicate,λv v1 v2=>Or.inr ?_,h9,λT _=>?_,?_⟩,rfl,Int.le_refl _,Int.le_refl _,Int.le_refl _,Int.le_refl _,?_,Or.inl ?_,?_,λi i1 i2=>?_,λh=>h⟩,Sm nv h1 h9 h5 pW⟩
 ·show gZ (List.replicate nv true) (v:Int)=true;unfold gZ;rw [List.getD_eq_getElem?_getD,List.getElem?_replicate,if_pos (by omega)]; rfl
 ·show Mo T (jc nv av);unfold Mo; rw [pW]; intro c hc; cases hc
 ·exact (KB hc.nvl hc.nl hl hw).mono (Nat.le_add_right _ _) (Nat.le_add_right _ _)
 ·show ((0:Nat):Int) - 0<=Du (jc nv av);omega
 ·show ((0:Nat):Int) - 0<c.bs*lub (1:Int).toNat;have:lub (1:Int).toNat=1:=by decide +kernel
  rw [this]; omega
 ·show (0:Int)<=c.bs*jd 0+(1 - 1)*nv;have:jd 0=0:=rfl;rw [this]; omega
 ·exact absurd i2 (by show ¬i<=(1:Int).toNat - 1; omega)
theorem ahn {c:kN} {nv:Nat} {av:List (List Int)} {S:SS} (hc:Co c nv av.length) (h:Sv c av nv S):Bd av nv S.cf:=by
 have hs:=h.small hc;have hn:=hc.nl;have hv:=hc.nvl;refine ⟨by unfold cap; omega,?_⟩;have h2:(S.cf+1)*(nv+1)<=2664429096\/(S.cf+1)*(nv+1)<=525337077:=by
  rcases hc.lim with q | ⟨q1,q2⟩
  ·have a:(S.cf+1)*(nv+1)<=126877576*21:=Nat.mul_le_mul (by omega) (by omega);exact Or.inl (by omega)
  ·have:=h.bd q1;have a:(S.cf+1)*(nv+1)<=501*1048577:=Nat.mul_le_mul (by omega) (by omega);exact Or.inr (by omega)
 omega
theorem Wt {b f g:Int} {d:Nat} {ph:Int} (h:formed b f g d ph=true):1<=b/\b<=1048576:=by
 unfold formed cS.Aa at h;simp only [Bool.and_eq_true,decide_eq_true_eq] at h;exact h.1.1.1.1
structure Wy (c:kN) (av:List (List Int)) (nv:Nat) (P:SS->Prop) (o:Ou):Prop where
 start:P (start nv av)
 hold:∀S,P S->Sk av nv S.cf c.d S.E S.sc S.st S.wb S.last/\S.cf<=126877575/\Bd av nv S.cf
 step:∀S S',P S->round c S=(S',none)->P S'
 run:∃t,run c t (Sv.start nv av)=some o
structure Ny (c:kN) (av:List (List Int)) (nv:Nat) (o:Ou):Prop where
 run:∃t,run c t (start nv av)=some o
 prf:o.fin=2->Prf av nv o.proof
 np:o.fin≠2->o.proof=[]
 nm:o.fin≠1->o.model=[]
 ml:o.model.length<=1048576
 pl:o.proof.length<=1099511627776
def acd (w:World) (nv:Int) (av:List (List Int)) (c:kN) (v:Value) (w':World):Prop:=
 (¬(bD nv av/\formed c.bs c.f c.g c.d c.ph=true)/\v=.tuple #[O0,I 1]/\af aq w w')\/
 (bD nv av/\formed c.bs c.f c.g c.d c.ph=true/\∃o v',Ny c av nv.toNat o/\v=.tuple #[v',I 0]/\uh w w' v' o/\af aq w w')
theorem Sq {b f g:Int} {d:Nat} {ph:Int} (hf:formed b f g d ph=true) {nv:Nat} (dS:nv<=1048576):Wf nv (List.replicate nv 0) 4607182418800017408 d (List.replicate nv true):=by
 obtain ⟨_,_,hd⟩:=eR.FQ (KV hf dS);exact ⟨by simp,by simp,dS,λx hx=>by rw [(List.mem_replicate.1 hx).2]; exact Nat.zero_le _,eR.one_le,hd⟩
theorem aho {c:kN} {nv:Int} {av:List (List Int)} (hf:bD nv av) (pn:formed c.bs c.f c.g c.d c.ph=true) (hn:av.length<=1048576) (mZ:nv<=20\/(0<=c.dh/\c.dh<=500)):Co c nv.toNat av.length:=by
 obtain ⟨q1,q2⟩:=Wt pn;obtain ⟨f0,f1,_⟩:=hf;exact ⟨q1,q2,by omega,mZ.imp (λh=>by omega) id,hn⟩
theorem YK {c:kN} {nv:Int} {av:List (List Int)} (hf:bD nv av) (pn:formed c.bs c.f c.g c.d c.ph=true) (hn:av.length<=1048576) (hl:∀es∈av,es.length<=1048576) (mZ:nv<=20\/(0<=c.dh/\c.dh<=500)):∃o,Wy c av nv.toNat (Sv c av nv.toNat) o/\FN c av nv.toNat o:=by
 have hc:=aho hf pn hn mZ;obtain ⟨hSv,hGd⟩:=Sn hc hl hf.2.2 (Sq pn hc.nvl);obtain ⟨tf,o,sD,ace⟩:=FP hc (mu nv.toNat (start nv.toNat av)+1) _ (Nat.lt_succ_self _) hSv;refine ⟨o,⟨hSv,λS h=>⟨h.k,h.small hc,ahn hc h⟩,λS S' h er=>?_,tf,sD⟩,ace⟩;rcases FO hc h with ⟨S2,e2,hV2,_⟩ | ⟨S2,o2,e2,_⟩
 ·rw [er] at e2; cases e2; exact hV2
 ·rw [er] at e2; cases e2
theorem Jj {Bl:Nat->Prop} {w:World} {nv:Int} {p:Option Addr} {n cp:Nat} {av:List (List Int)} (hC:pP Bl w p n av) (nj:∀j,Bl j->j<w.heap.size) (hn:n<=1048576) (hl:∀es∈av,es.length<=1048576) (c:kN)
  (hW:bD nv av->formed c.bs c.f c.g c.d c.ph=true->∃P o,Wy c av nv.toNat P o) (sL : -9223372036854775808<=c.dh/\c.dh<=9223372036854775807) :
  Calls Tryz.prog 14 #[.agg #[I nv,.slice p n cp],.agg #[I c.bs,I c.f,I c.g,.float .f64 c.d,I c.ph,I c.dh]] w λe w'=>∃v,e=.returned v/\acd w nv av c v w':=by
 refine Ng nv p n cp c.bs c.f c.g c.d c.ph c.dh w (acd w nv av c) ?_;unfold V14;have g_:=hC.len;refine aD λb2 w1 rN bH k1=>aD λb3 w2 R7 bP k2=>aD λb4 w3 hb4 gJ k3=>?_;have l2:=bH.lt; have l3:=bP.lt; have l4:=gJ.lt;have bH:=(bH.aa k2).aa k3;have bP:=bP.aa k3;have oF:=(k1.ak k2).ak k3;have s1:=k1.size; have s2:=k2.size; have s3:=k3.size;have c2:∀{W:World},b_ W b2 [I nv,.slice p n cp] 24->W.cell? ((⟨b2,0,none⟩:Addr).add 0)=some (I nv)/\W.cell? ((⟨b2,0,none⟩:Addr).add 1)=some (.slice p n cp):=λhB=>by rw [ag,ag]; exact ⟨hB.cell 0,hB.cell 1⟩
 have c3:∀{W:World},b_ W b3 [I c.bs,I c.f,I c.g,.float .f64 c.d,I c.ph,I c.dh] 27->W.cell? ((⟨b3,0,none⟩:Addr).add 0)=some (I c.bs)/\W.cell? ((⟨b3,0,none⟩:Addr).add 1)=some (I c.f)/\W.cell? ((⟨b3,0,none⟩:Addr).add 2)=some (I c.g)/\W.cell? ((⟨b3,0,none⟩:Addr).add 3)=some (.float .f64 c.d)/\W.cell? ((⟨b3,0,none⟩:Addr).add 4)=some (I c.ph)/\W.cell? ((⟨b3,0,none⟩:Addr).add 5)=some (I c.dh):=λhB=>by
  simp only [ag]; exact ⟨hB.cell 0,hB.cell 1,hB.cell 2,hB.cell 3,hB.cell 4,hB.cell 5⟩
 have hC3:=hC.ax oF λj _ q=>q;refine ah (c2 bH).1 (au (c2 bH).2 ?_);refine az O9 (qX hC3 (by omega) λes he=>Nat.le_trans (hl es he) (by omega)) λe w4 ⟨r,he,hr,k4⟩=>⟨r,he,?_⟩
 have bH:=bH.aa k4; have bP:=bP.aa k4; have gJ:=gJ.aa k4;have uX:=oF.ak k4;have s4:=k4.size;have bad:∀{W:World},b_ W b4 [I 0,.slice none 0 0,.slice none 0 0,I 0] 33->af aq w W->¬(bD nv av/\formed c.bs c.f c.g c.d c.ph=true)->
   st W ((⟨b4,0,none⟩:Addr).add 0) (.int .i64 0) λw8=>st w8 ((⟨b4,0,none⟩:Addr).add 1) (.slice none 0 0) λw9=>st w9 ((⟨b4,0,none⟩:Addr).add 2) (.slice none 0 0) λcK=>st cK ((⟨b4,0,none⟩:Addr).add 3) (.int .i64 0) λdB=>
   aW .i64 dB ((⟨b4,0,none⟩:Addr).add 0) λlR=>aZ dB ((⟨b4,0,none⟩:Addr).add 1) λiV xP zf=>aZ dB ((⟨b4,0,none⟩:Addr).add 2) λiT ji j8=>aW .i64 dB ((⟨b4,0,none⟩:Addr).add 3) λjj=>
   acd w nv av c (.tuple #[.agg #[.int .i64 lR,.slice iV xP zf,.slice iT ji j8,.int .i64 jj],.int .i64 1]) dB:=λ{W} hB hk dO=>
  sN rfl hB λw5 oe k5=>oV oe (Or.inl ⟨dO,rfl,hk.trans k5 λi hi q=>by have q':i=b4:=q; omega⟩)
 cases r with
 | false=>
  have hnf:¬bD nv av:=λq=>by have:=hr.2 q; cases this
  exact a_ rfl (a_ rfl (aX rfl (bad gJ uX λq=>hnf q.1)))
 | true=>
  have hf:bD nv av:=hr.1 rfl;obtain ⟨a0,a1,a2,a3,a4,a5⟩:=c3 bP;refine aS rfl (ah a0 (ah a1 (ah a2 (dY a3 (ah a4 (ah a5 ?_))))));refine aS rfl (az agS (Ab c.bs c.f c.g c.d c.ph c.dh w4) λe w5 ⟨he,k5⟩=>⟨_,he,?_⟩);have bH:=bH.aa k5; have bP:=bP.aa k5; have gJ:=gJ.aa k5;have wz:=uX.ak k5;have s5:=k5.size;cases pn:formed c.bs c.f c.g c.d c.ph with
  | false=>exact aX rfl (bad gJ wz λq=>by rw [pn] at q; cases q.2)
  | true=>
   refine aT rfl ?_;obtain ⟨f0,f1,f2⟩:=hf;have hC5:=hC.ax wz λj _ q=>q;refine ah (c2 bH).1 (au (c2 bH).2 ?_);refine az aj9 (abF hC5 (λj hj=>by have:=nj j hj; have:=wz.size; omega) hn hl) λe w6 ⟨q,x,he,hN⟩=>⟨q,x,he,?_⟩
   rcases hN with ⟨_,_,dO,_⟩ | ⟨_,rfl,eb,M,rfl,hG,hM,k6⟩
   ·exact absurd ⟨f0,f1,f2⟩ dO
   have bH:=bH.aa k6; have bP:=bP.aa k6; have gJ:=gJ.aa k6;have Dp:=wz.ak k6;have s6:=k6.size;have kd:af aq w6 w6.drew:=(af.refl aq w6).drew;have bH:=bH.aa kd; have bP:=bP.aa kd; have gJ:=gJ.aa kd;have By:=Dp.ak kd;have s7:=kd.size;have hG7:=hG.aa kd;have hMl:∀i,M i->i<w6.drew.heap.size:=hG7.lt;generalize w6.drew=w7 at *
   obtain ⟨a0,a1,a2,a3,a4,a5⟩:=c3 bP;refine ah (c2 bH).1 (ah a0 (ah a1 (ah a2 (dY a3 (ah a4 (ah a5 (ah a5 ?_)))))));have Va:((nv.toNat:Nat):Int)=nv:=by omega
   have hL:=ahl (nv:=nv.toNat) (by omega) (dh:=c.dh) pn w7;rw [Va] at hL;refine az amp hL λe w8 ⟨Q,A,gb,lb,tl,he,k8,ht,hGr⟩=>⟨_,_,_,_,_,_,_,he,?_⟩
   have bP:=bP.aa k8; have gJ:=gJ.aa k8;obtain ⟨_,_,_,_,_,a5⟩:=c3 bP;refine ⟨ah a5 rfl,?_⟩;refine aD λb50 w9 apc ahp k9=>?_;have gJ:=gJ.aa k9;have k09:=(By.ak k8).ak k9;have s8:=k8.size; have s9:=k9.size;have l50:=ahp.lt;let Y:Lay:=⟨b50,eb,gb,Q,A,lb⟩
   let t:Nat->Int:=λi=>open Classical in if i=b50 then 1 else if M i then 6 else tl i;have tv:∀i,t i=open Classical in if i=b50 then 1 else if M i then 6 else tl i:=λi=>rfl;have tne:∀i,tl i≠0->t i=tl i:=λi hi=>by
    obtain ⟨h1,h2,_⟩:=ht i hi;rw [tv,if_neg (by omega),if_neg (λq=>by have:=hMl i q; omega)]
   have ahq:=(hGr b50 eb c rfl rfl rfl rfl rfl).aa k9;have hwf:=ahq.he.wf;obtain ⟨P,o,hP⟩:=hW ⟨f0,f1,f2⟩ pn;have TF:nv.toNat<=1048576:=by omega
   obtain ⟨_,z1,z2,z3,z4,z5,z6,z7,z8,z9⟩:=oI TF (by omega) hl f2;have hGd:Gd av (start nv.toNat av).E:=Sm nv.toNat z1 z9 z5 (by unfold aU; rw [z4]; rfl);have Re:Sr t w9 Y c av nv.toNat 0 (start nv.toNat av):=by
    refine ⟨ahp,by rw [tv,if_pos rfl],?_,⟨M,?_,λi hi=>?_⟩,λi hi=>?_⟩
    ·obtain ⟨g1,g2,g3,g4,g5,g6,g7,g8,g9,g10⟩:=ahq;have tt:∀{i:Nat} {x:Int},tl i=x->x≠0->t i=x:=λ{i x} h1 h2=>by rw [tne i (by rw [h1]; exact h2)]; exact h1
     obtain ⟨p0,p1,p2,p3,p4,p5⟩:=g8;exact ⟨g1,tt g2 (by decide),g3,λi hi=>tt (g4 i hi) (by decide),g5,λi hi=>tt (g6 i hi) (by decide),g7,⟨tt p0 (by decide),tt p1 (by decide),tt p2 (by decide),tt p3 (by decide),tt p4 (by decide),tt p5 (by decide)⟩,g9,g10⟩
    ·exact ((hG7.aa k8).aa k9).mono (Nat.le_add_right _ _) (Nat.le_add_right _ _)
    ·have:=hMl i hi;rw [tv,if_neg (by omega),if_pos hi]
    ·rw [tv,if_neg (by omega),if_neg (λq=>by have:=hMl i q; omega)];apply Classical.byContradiction;intro bz;have:=(ht i bz).2.1;omega
   have t0:∀i,i<w5.heap.size->t i=0:=λi hi=>by
    rw [tv,if_neg (by omega),if_neg (λq=>by have:=hM i q; omega)];apply Classical.byContradiction;intro bz;have:=(ht i bz).1;omega
   obtain ⟨tf,sD⟩:=hP.run;refine Rl (G:=SS×Nat) (λg _ W=>∃t',Sr t' W Y c av nv.toNat g.1.cf g.1/\P g.1/\Gd av g.1.E/\run c g.2 g.1=some o/\af aq w W/\(∃cs,cs.length=4/\b_ W b4 cs 33)/\(∀i,i<=b4->t' i=0)) (λg _ _=>g.2) (start nv.toNat av,tf) ⟨t,Re,hP.start,hGd,sD,k09,⟨_,rfl,gJ⟩,λi hi=>t0 i (by omega)⟩ ?_;rintro ⟨S,k⟩ ⟨⟩ W ⟨t',hS,hV,hg,hk,kW,⟨cs,vE,acf⟩,hz⟩ Qq hQ;dsimp only at hS hV hg hk hz;obtain ⟨hSk,XI,hBd⟩:=hP.hold S hV;dsimp only;have hrg:=FT TF hSk hg;have uk:=acf.lt;obtain ⟨k,rfl⟩:∃q,k=q+1:=by
    cases k with
    | zero=>cases hk
    | succ q=>exact ⟨q,rfl⟩
   have rL:Calls Tryz.prog 38 #[Pt b50] W (λe w'=>∃v,e=.returned v/\Ji t' W Y c av nv.toNat S v w'):=ab7 hS TF hSk hg hBd XI sL;refine az amq rL λe W1 ⟨v,he,hR⟩=>?_;have hzb:t' b4=0:=hz b4 (Nat.le_refl _);rcases hR with ⟨S',er,rfl,t1,Ot,Sj,kT⟩ | ⟨S',o',v',er,rfl,hO,kT⟩
   ·refine ⟨0,none,0,0,none,0,0,0,false,he,?_⟩;have oe:=acf.ax kT λq=>q hzb;have kW1:af aq w W1:=kW.trans kT λi hi q=>q (hz i (by omega));refine aD λTx W2 amF Nz Ds=>?_;have aba:=Ds.size;refine sN rfl Nz λW3 Nz Kg=>?_;refine aT rfl ?_;have gQ:af aq W1 W3:=Ds.bw Kg (by omega);refine hQ (S',k) () W3 ⟨t1,Ot.aa gQ,hP.step S S' hV er,hrg.1 S' er,?_,kW1.ak gQ,⟨cs,vE,oe.aa gQ⟩,λi hi=>(Sj i (by omega)).trans (hz i hi)⟩ (Nat.lt_succ_self k);unfold run at hk;rw [er] at hk;exact hk
   ·obtain ⟨q1,q2,q3,q4,q5⟩:=hrg.2 S' o' er;have eo:o'=o:=by
     unfold run at hk;rw [er] at hk;injection hk
    subst eo;obtain ⟨p,n,d,q,m,d',gs,rfl,g1,g2,g3,g4⟩:=hO;have hO:uh W W1 (.agg #[I o'.fin,.slice p n d,.slice q m d',I o'.cf]) o':=⟨p,n,d,q,m,d',gs,rfl,g1,g2,g3,g4⟩
    refine ⟨_,p,n,d,q,m,d',_,true,he,?_⟩;have oe:=acf.ax kT λq=>q hzb;have kW1:af aq w W1:=kW.trans kT λi hi q=>q (hz i (by omega));have sT:=kT.size;have sW:=kW.size;refine aD λTx W2 amF Nz Ds=>?_;have aba:=Ds.size;refine sN rfl Nz λW3 Nz Kg=>?_;refine aX rfl ?_;have gQ:af aq W1 W3:=Ds.bw Kg (by omega);refine oV Nz ?_;refine sN vE (oe.aa gQ) λW4 mU k4'=>?_;refine oV mU ?_;refine Or.inr ⟨⟨f0,f1,f2⟩,pn,o',_,⟨⟨tf,sD⟩,q1,q2,q3,by omega,by have:=hBd.a; unfold cap at this; omega⟩,rfl,?_,(kW1.ak gQ).trans k4' λi hi q=>by have q':i=b4:=q; omega⟩;exact ((hO.ax gQ λ_ _ _ q=>q).ax k4' λi h1 h2 q=>by have q':i=b4:=q; omega).pre sW
end Sv
end Go.Proofs.YtagkgfmddflodaaGreat

