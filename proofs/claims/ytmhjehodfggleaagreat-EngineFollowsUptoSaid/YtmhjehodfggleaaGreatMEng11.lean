/- Shrink, the program's; LearnShrinks. -/

import Derived.Test.YtmhjehodfggleaaGreatMLearnI
import Derived.Test.YtmhjehodfggleaaGreatMVcQ
import Derived.Test.YtmhjehodfggleaaGreatMTTrail
import Derived.Test.YtmhjehodfggleaaGreatMSort2
set_option linter.unusedVariables false
set_option linter.unusedSimpArgs false
set_option maxRecDepth 100000
namespace Go.Proofs.YtmhjehodfggleaaGreat.Learn
open Go Go.Proofs.YtmhjehodfggleaaGreat.Vc Go.Proofs.YtmhjehodfggleaaGreat.T
open Go.Proofs.YtmhjehodfggleaaGreat.Apart (RdL own_rdl wrap_nat getE own_len copy same take_snoc Sl sv Gro)
section
variable {w w1 w2:World} {es:List En} {cl:List Int} {b0 b1 b2 b3 b4 r0 r1 r3 N:Nat} {p:Option Addr} {n c:Nat} {fa fs fs2 f:List (Int×Int)} {S:Nat→Prop}
theorem Ev.keepX (h:Ev w1 es cl b0 b1 b2 b3 b4 r0 r1 r3 p n c fa fs) (hk:Keep S w1 w2) (hS:∀i,S i→N≤i) (hN:b0<N∧b1<N∧b2<N∧b3<N∧b4<N∧r1<N∧r3<N) (hrd:RdE w2 p n es):Ev w2 es cl b0 b1 b2 b3 b4 r0 r1 r3 p n c fa fs:=by
 have no:∀{i},i<N→¬S i:=fun h1 h2=>by have:=hS _ h2; omega
 exact ⟨h.kn.keep hk (no hN.1),h.tr.keep hk (no hN.2.1),h.at'.keep hk (no hN.2.2.1),h.st.keep hk (no hN.2.2.2.1),h.fn.keep hk (no hN.2.2.2.2.1),hrd,h.am.keep hk (no hN.2.2.2.2.2.1),h.sm.keep hk (no hN.2.2.2.2.2.2),h.d1,h.d3,h.pm,h.sp⟩
theorem zz3:(Tryz.prog.info? 3).map (·.zero)=some (some (.int .i64 0)):=z3
theorem Ev.put (h:Ev w1 es cl b0 b1 b2 b3 b4 r0 r1 r3 p n c fa fs) (hM:Mp w1 r0 f) (k:Keep (One r3) w1 w2) (hs2:Mp w2 r3 fs2) (h13:r1≠r3) (hsp:∀o,mget o fs2=0↔o∉cl):Ev w2 es cl b0 b1 b2 b3 b4 r0 r1 r3 p n c fa fs2∧Mp w2 r0 f:=
 ⟨⟨blk_keepM h.kn h.sm k,blk_keepM h.tr h.sm k,blk_keepM h.at' h.sm k,blk_keepM h.st h.sm k,blk_keepM h.fn h.sm k,rde_keepM h.rd h.sm k,h.am.keep k h13,hs2,h.d1,h.d3,h.pm,hsp⟩,hM.keep k fun e=>h.d3 (Eq.symm e)⟩
end
def Sp (cs:List Int) (fs:List (Int×Int)) (i:Nat):Prop:=∀o,(mget o fs=2∧o∈cs.take i)∨(mget o fs=1∧o∈cs∧o∉cs.take i)∨(mget o fs=0∧o∉cs)
theorem take_sub {cs:List Int} {i:Nat} {o:Int} (h:o∈cs.take i):o∈cs:=(List.take_sublist i cs).subset h
theorem Sp.zero {cs:List Int} {fs:List (Int×Int)} {i:Nat} (h:Sp cs fs i) (o:Int):mget o fs=0↔o∉cs:=by
 rcases h o with ⟨e,hm⟩ | ⟨e,hm,_⟩ | ⟨e,hm⟩
 ·rw [e]; exact ⟨fun h=>absurd h (by decide),fun h=>absurd (take_sub hm) h⟩
 ·rw [e]; exact ⟨fun h=>absurd h (by decide),fun h=>absurd hm h⟩
 ·rw [e]; exact ⟨fun _=>hm,fun _=>rfl⟩
theorem Sp.next {cs:List Int} {fs:List (Int×Int)} {i:Nat} {l:Int} (h:Sp cs fs i) (hl:cs[i]?=some l):Sp cs (mput l 2 fs) (i+1):=fun o=>by
 rw [mget_mput,take_snoc hl]
 by_cases ho:o=l
 ·rw [if_pos ho]; exact Or.inl ⟨rfl,by simp [ho]⟩
 ·rw [if_neg ho]
  rcases h o with ⟨e,hm⟩ | ⟨e,hm,hn⟩ | ⟨e,hm⟩
  ·exact Or.inl ⟨e,by simp [hm]⟩
  ·exact Or.inr (Or.inl ⟨e,hm,by simp [hn,ho]⟩)
  ·exact Or.inr (Or.inr ⟨e,hm⟩)
theorem Sp.skip {cs:List Int} {fs:List (Int×Int)} {i:Nat} {l:Int} (h:Sp cs fs i) (hl:cs[i]?=some l) (hin:l∈cs.take i):Sp cs fs (i+1):=fun o=>by
 rw [take_snoc hl]
 rcases h o with ⟨e,hm⟩ | ⟨e,hm,hn⟩ | ⟨e,hm⟩
 ·exact Or.inl ⟨e,by simp [hm]⟩
 ·refine Or.inr (Or.inl ⟨e,hm,?_⟩)
  rw [List.mem_append,List.mem_singleton]
  rintro (h | rfl)
  ·exact hn h
  ·exact hn hin
 ·exact Or.inr (Or.inr ⟨e,hm⟩)
section
variable {w w':World} {p q:Option Addr} {n m c d:Nat} {es:List En} {cs:List Int}
theorem shrink16 (hE:RdE w p n es) (hn:n≤1048576) (hr:∀x∈es,x.rs.length≤1048576) (hC:RdL w q m cs) (hm:m≤1048576) :
  Calls Tryz.prog 55 #[.slice p n c,.slice q m d] w fun e w'=>∃v,e=.returned v∧Shrunk es cs w v w':=by
 refine V55_calls p n c q m d w (Shrunk es cs w) ?_
 unfold V55
 have hcl:=hC.len
 have hl:=hE.len
 refine alc_at fun bT w1 hbT hT k1=>?_
 simp only [add_mk,Nat.add_zero,Nat.zero_add]
 refine ldC_of (hT.cell 0) (cl_of ok98 (places40 (hE.keep0 k1) (by omega)) fun e w2 ⟨r1,fa,he,hr1,hM1,hP,k2⟩=>⟨_,he,?_⟩)
 have k02:=k1.then0 k2
 have z1:=k1.size
 have z2:=k2.size
 have lr1:=hM1.lt
 have lT:=hT.lt
 refine alc_at fun bA w3 hbA hA k3=>?_
 have lA:=hA.lt
 have z3:=k3.size
 refine st_of hA (by simp) rfl fun w4 hA4 k4 _=>?_
 have k24:Keep None w2 w4:=k3.then1 k4 (by omega)
 simp only [List.set_cons_zero] at hA4
 have k04:=k02.then0 k24
 have hT4:=(hT.keep0 k2).keep0 k24
 have hM14:=hM1.keep0 k24
 refine ldC_of (hT4.cell 0) (ldM_of (hA4.cell 0) (cl_of ok99 (asked43 (hE.keep0 k04) hn hr (hC.keep0 k04) hm hM14 hP) fun e w5 ⟨u,he,hu,k5⟩=>⟨u,he,?_⟩))
 have k05:=k04.then0 k5
 by_cases hu0:u≠0
 ·exact pif_t (by simpa using hu0) ⟨u,none,0,0,[],rfl,hu,Own.nil _ _ _,(fun j ⟨a,hh,_⟩=>by cases hh),fun h=>absurd h hu0,fun _=>rfl,k05⟩
 obtain rfl:u=0:=Classical.byContradiction hu0
 obtain ⟨hFa,hF,hs⟩:Fals es cs∧Fm es∧cs.all fl=true:=by
  rcases hu with ⟨h,_⟩ | ⟨h,_⟩ | ⟨_,h⟩
  ·cases h
  ·cases h
  ·exact h
 refine pif_f rfl (mkmap_of fun r3 w6 hr3 hM3 k6=>alc_at fun bS w7 hbS hS7 k7=>?_)
 have lr3:=hM3.lt
 have lS:=hS7.lt
 have z4:=k24.size
 have z5:=k5.size
 have z6:=k6.size
 have z7:=k7.size
 refine st_of hS7 (by simp) rfl fun w8 hS8 k8 sz8=>?_
 simp only [List.set_cons_zero] at hS8
 have k58:Keep None w5 w8:=(k6.then0 k7).then1 k8 (by omega)
 have k08:=k05.then0 k58
 have hM38:=(hM3.keep0 k7).keep k8 (show r3≠bS by omega)
 have hT8:=(hT4.keep0 k5).keep0 k58
 have hA8:=(hA4.keep0 k5).keep0 k58
 have hM18:=(hM14.keep0 k5).keep0 k58
 refine lp_of (fun s w'=>∃(i:Nat) (fs:List (Int×Int)),s.1=(i:Int)∧i≤m∧Keep (One r3) w8 w'∧Mp w' r3 fs∧∀o,(mget o fs=1∧o∈cs.take i)∨(mget o fs=0∧o∉cs.take i)) (fun s _=>(m - s.1).toNat)
  ⟨0,[],rfl,Nat.zero_le _,Keep.refl _ _,hM38,fun o=>Or.inr ⟨rfl,by simp⟩⟩ ?_
 rintro ⟨i',⟨⟩⟩ w9 ⟨i,fs,rfl,hi,k9,hM39,hfs⟩
 simp only []
 have z9:=k9.size
 have k09:Keep None w w9:=k08.trans k9 fun j hj hh=>by have:j=r3:=hh; omega
 have hT9:=blk_keepM hT8 hM38 k9
 have hA9:=blk_keepM hA8 hM38 k9
 have hS9:=blk_keepM hS8 hM38 k9
 have hM19:=hM18.keep k9 (show r1≠r3 by omega)
 refine pif_of (fun hlt=>?_) fun hge=>?_
 ·have hlt:i<m:=by simpa using hlt
  rw [wrap_nat i (by omega)]
  refine (hC.keep0 k09).ix hlt fun a l hl1 ha=>ldI_of ha (ldM_of (hS9.cell 0) (up_of u52 Tryz.underlying3 hM39 fun w10 hM10 k10 _=>⟨⟨i+1,_,rfl,hlt,k9.trans k10 fun j _ h=>h,hM10,fun o=>?_⟩,by omega⟩))
  rw [mget_mput,take_snoc hl1]
  by_cases ho:o=l
  ·rw [if_pos ho]; exact Or.inl ⟨rfl,by simp [ho]⟩
  ·rw [if_neg ho]
   rcases hfs o with ⟨e,hmm⟩ | ⟨e,hnn⟩
   ·exact Or.inl ⟨e,by simp [hmm]⟩
   ·exact Or.inr ⟨e,by simp [hnn,ho]⟩
 have hge:i=m:=by simp at hge; omega
 subst hge
 have hta:cs.take i=cs:=by rw [←hcl,List.take_length]
 rw [hta] at hfs
 have hsp:Sp cs fs 0:=fun o=>by
  rcases hfs o with ⟨e,hmm⟩ | ⟨e,hnn⟩
  ·exact Or.inr (Or.inl ⟨e,hmm,by simp⟩)
  ·exact Or.inr (Or.inr ⟨e,hnn⟩)
 refine mkmap_of fun r0 w10 hr0 hM0 k10=>alc_at fun bK w11 hbK hK11 k11=>?_
 have lr0:=hM0.lt
 have lK:=hK11.lt
 have z10:=k10.size
 have z11:=k11.size
 refine st_of hK11 (by simp) rfl fun w12 hK12 k12 sz12=>alc_at fun bF w13 hbF hF13 k13=>?_
 simp only [List.set_cons_zero] at hK12
 have lF:=hF13.lt
 have z13:=k13.size
 refine st_of hF13 (by simp) rfl fun w14 hF14 k14 sz14=>?_
 simp only [List.set_cons_zero] at hF14
 have k912:Keep None w9 w12:=(k10.then0 k11).then1 k12 (by omega)
 have k914:Keep None w9 w14:=(k912.then0 k13).then1 k14 (by omega)
 have k014:=k09.then0 k914
 have hM014:Mp w14 r0 []:=(((hM0.keep0 k11).keep k12 (show r0≠bK by omega)).keep0 k13).keep k14 (show r0≠bF by omega)
 have hEv:Ev w14 es cs bK bT bA bS bF r0 r1 r3 p n c fa fs:=
  ⟨(hK12.keep0 k13).keep k14 (show bK≠bF by omega),hT9.keep0 k914,hA9.keep0 k914,hS9.keep0 k914,hF14,hE.keep0 k014,hM19.keep0 k914,hM39.keep0 k914,by omega,by omega,hP,hsp.zero⟩
 have hN:bK<w14.heap.size∧bT<w14.heap.size∧bA<w14.heap.size∧bS<w14.heap.size∧bF<w14.heap.size∧r1<w14.heap.size∧r3<w14.heap.size:=by omega
 have hr0N:r0<w14.heap.size:=hM014.lt
 have h13:r1≠r3:=by omega
 have old0:w.heap.size≤r0:=by omega
 have old3:w.heap.size≤r3:=by omega
 clear hK11 hK12 hF13 hF14 hT9 hA9 hS9 hM19 hM39 hT8 hA8 hM18 hM38 hS8 hS7 hM3 hT4 hA4 hM14 hA hM1 hT hM0
 obtain ⟨N,hNN⟩:∃N,N=w14.heap.size:=⟨_,rfl⟩
 rw [←hNN] at hN hr0N
 have hwN:w.heap.size≤N:=by have:=k014.size; omega
 let Iv:Nat→(Option Addr×Nat×Nat)→World→Prop:=fun k s w'=>∃f fs,Keep None w w'∧N≤w'.heap.size∧Ev w' es cs bK bT bA bS bF r0 r1 r3 p n c fa fs∧Mp w' r0 f∧Kv es cs f n∧Sp cs fs k∧s.2.1=(shr es cs k).length∧Own w' 3 1 s.1 (shr es cs k).length s.2.2 ((shr es cs k).map I)∧∀j,ob s.1 j→N≤j
 refine lp_of (fun s w'=>∃k:Nat,s.2.1=(k:Int)∧k≤i∧Iv k s.1 w') (fun s _=>(i - s.2.1).toNat)
  ⟨0,rfl,Nat.zero_le _,[],fs,k014,by omega,hEv,hM014,fun j y _ _=>Or.inl rfl,hsp,rfl,Own.nil _ _ _,fun j ⟨a,hh,_⟩=>by cases hh⟩ ?_
 rintro ⟨⟨g,gn,gc⟩,k',⟨⟩⟩ w15 ⟨k,rfl,hk,f,fs,k15,hs15,hE15,hM15,hK15,hSp,hgn,hO,hob⟩
 simp only [] at hgn hO hob ⊢
 subst hgn
 have hshl:=shr_len es cs k
 refine pif_of (fun hlt=>?_) fun hge=>?_
 ·have hlt:k<i:=by simpa using hlt
  rw [wrap_nat k (by omega)]
  obtain ⟨l,hl1⟩:=getE (show k<cs.length by omega)
  have hlm:=List.mem_of_getElem? hl1
  have hfl:fl l=true:=List.all_eq_true.1 hs l hlm
  obtain ⟨y,hym,hyl⟩:=hFa l hlm
  obtain ⟨a,hya⟩:=List.mem_iff_getElem?.1 hym
  have ha:=(List.getElem?_eq_some_iff.1 hya).1
  have hny:neg y.lit=l:=by rw [hyl,neg_neg hfl]
  refine ⟨fun t w'=>Iv (k+1) t.1 w',?_,fun t w4 h4=>⟨⟨k+1,rfl,hlt,h4⟩,by omega⟩⟩
  refine (hC.keep0 k15).ix hlt fun ad l' hl' had=>ldI_of had (ldM_of (hE15.st.cell 0) (lk_of u52 Tryz.underlying3 zz3 hE15.sm ?_))
  rw [hl1] at hl'
  injection hl' with hl'
  subst hl'
  by_cases hin:l∈cs.take k
  ·have e2:mget l fs=2:=by
    rcases hSp l with ⟨e,_⟩ | ⟨_,_,h⟩ | ⟨_,h⟩
    ·exact e
    ·exact absurd hin h
    ·exact absurd hlm h
   refine pif_t (by rw [e2]; rfl) ?_
   show Iv (k+1) (g,(shr es cs k).length,gc) w15
   refine ⟨f,fs,k15,hs15,hE15,hM15,hK15,hSp.skip hl1 hin,?_⟩
   rw [shr_no hl1 fun h=>h.1 hin]
   exact ⟨rfl,hO,hob⟩
  ·have e1:mget l fs=1:=by
    rcases hSp l with ⟨_,h⟩ | ⟨e,_⟩ | ⟨_,h⟩
    ·exact absurd h hin
    ·exact e
    ·exact absurd hlm h
   refine pif_f (by rw [e1]; rfl) ?_
   refine ⟨fun t w'=>∃f,Keep None w w'∧N≤w'.heap.size∧Ev w' es cs bK bT bA bS bF r0 r1 r3 p n c fa fs∧Mp w' r0 f∧Kv es cs f n∧t.1.2.1=(shr es cs (k+1)).length∧Own w' 3 1 t.1.1 (shr es cs (k+1)).length t.1.2.2 ((shr es cs (k+1)).map I)∧∀j,ob t.1.1 j→N≤j,?_,?_⟩
   ·-- whether it stays
    have stay:∀{w16:World} {f':List (Int×Int)},Kp es cs k l→Keep None w w16→N≤w16.heap.size→Ev w16 es cs bK bT bA bS bF r0 r1 r3 p n c fa fs→Mp w16 r0 f'→Kv es cs f' n→Own w16 3 1 g (shr es cs k).length gc ((shr es cs k).map I)→
      alc w16 [.int .i64 l] 3 fun b78 w29=>∃(x79:Option Addr) (x79n x79c:Nat),∃w30:World,(Builtin.append_ #[49,49] 49 #[.slice g (shr es cs k).length gc,.slice (some (⟨b78,0,none⟩:Addr)) 1 1]).run Tryz.prog w29=.ok (.slice x79 x79n x79c) w30∧
      (∃f,Keep None w w30∧N≤w30.heap.size∧Ev w30 es cs bK bT bA bS bF r0 r1 r3 p n c fa fs∧Mp w30 r0 f∧Kv es cs f n∧x79n=(shr es cs (k+1)).length∧Own w30 3 1 x79 (shr es cs (k+1)).length x79c ((shr es cs (k+1)).map I)∧∀j,ob x79 j→N≤j):=by
     intro w16 f' hkp k16 hs16 hE16 hM16 hK16 hO16
     refine app_one (t:=49) (B:=8) Tryz.underlying49 info3 rfl (by omega) rfl hO16 (by omega) fun p' c' w17 hO17 k17 hob17=>?_
     have k017:Keep None w w17:=k16.trans k17 fun j hj hh=>by have:=hob j hh; omega
     have z17:=k17.size
     rw [shr_yes hl1 hkp,List.length_append,List.map_append]
     refine ⟨f',k017,by omega,hE16.keepX k17 hob hN (hE.keep0 k017),hM16.keep k17 fun hh=>by have:=hob r0 hh; omega,hK16,rfl,hO17,fun j hj=>?_⟩
     rcases hob17 j hj with h | h
     ·exact hob j h
     ·omega
    have leave:∀{w16:World} {f':List (Int×Int)},¬Kp es cs k l→Keep None w w16→N≤w16.heap.size→Ev w16 es cs bK bT bA bS bF r0 r1 r3 p n c fa fs→Mp w16 r0 f'→Kv es cs f' n→Own w16 3 1 g (shr es cs k).length gc ((shr es cs k).map I)→
      (∃f,Keep None w w16∧N≤w16.heap.size∧Ev w16 es cs bK bT bA bS bF r0 r1 r3 p n c fa fs∧Mp w16 r0 f∧Kv es cs f n∧(shr es cs k).length=(shr es cs (k+1)).length∧Own w16 3 1 g (shr es cs (k+1)).length gc ((shr es cs (k+1)).map I)∧∀j,ob g j→N≤j):=by
     intro w16 f' hkp k16 hs16 hE16 hM16 hK16 hO16
     rw [shr_no hl1 hkp]
     exact ⟨f',k16,hs16,hE16,hM16,hK16,rfl,hO16,hob⟩
    by_cases hk0:k=0
    ·have e0:((k:Int)==0)=true:=by simp [hk0]
     have e1:(!((k:Int)==0))=false:=by rw [e0]; rfl
     have e2:∀z:Bool,((!((k:Int)==0))&&z)=false:=fun z=>by rw [e1]; rfl
     exact gd_f e1 (gd_f e1 (gd_f e1 (gd_f e1 (gd_f e1 (gd_f (e2 _) (gd_f (e2 _) (pif_t (by rw [e0]; rfl) (stay ⟨hin,Or.inl hk0⟩ k15 hs15 hE15 hM15 hK15 hO))))))))
    ·have e0:((k:Int)==0)=false:=by simpa using hk0
     have e1:(!((k:Int)==0))=true:=by rw [e0]; rfl
     have kpi:=kp_iff (cl:=cs) hF hfl hya hyl hk0 hin
     have hat:mget l fa=(a:Int)+1:=by rw [←hny]; exact at_of hF hP hya
     have ea:IntKind.wrap .i64 ((a:Int)+1 - 1)=(a:Int):=by rw [IntKind.wrap_i64]; omega
     refine gd_t e1 (ldC_of (hE15.tr.cell 0) (gd_t e1 (ldM_of (hE15.at'.cell 0) (gd_t e1 (lk_of u52 Tryz.underlying3 zz3 hE15.am (gd_t e1 ?_))))))
     rw [hat,ea]
     refine hE15.rd.ix hya fun ad ⟨_,_,_,_,c1,_⟩=>gd_t e1 (ldI_of c1 ?_)
     by_cases hlev:0<y.lev
     ·have e2:((!((k:Int)==0))&&decide (y.lev>0))=true:=by rw [e1,decide_eq_true hlev]; rfl
      refine gd_t e2 (ldV_of (hE15.fn.cell 0) (gd_t e2 (clF_of ?_)))
      have go:=covered44 (b0:=bK) (b1:=bT) (b2:=bA) (b3:=bS) (b4:=bF) (r0:=r0) (r1:=r1) (r3:=r3) (p:=p) (n:=n) (c:=c) (fa:=fa) (fs:=fs) (cl:=cs) hF hn hr a y w15 f hya hE15 hM15 (fun j y' hj hy'=>hK15 j y' (by omega) hy')
      rw [hny] at go
      refine cl_of ok101 go fun e w16 ⟨v,he,b',f',hv,hb',hM16,hK16,hFr,k16⟩=>⟨b',he.trans (congrArg Ending.returned hv),?_⟩
      have k016:Keep None w w16:=k15.trans k16 fun j hj hh=>by have:j=r0:=hh; omega
      have hs16:N≤w16.heap.size:=by have:=k16.size; omega
      have hE16:=hE15.keepM hM15 k16
      have hO16:Own w16 3 1 g (shr es cs k).length gc ((shr es cs k).map I):=hO.keep k16 fun j hj hh=>by have:=hob j hj; have:j=r0:=hh; omega
      have hK16n:Kv es cs f' n:=fun j y' hj hy'=>by
       by_cases hle:j≤a
       ·exact hK16 j y' hle hy'
       ·rw [hFr (neg y'.lit) fun j2 y2 hj2 hy2 e=>by have:=lit_ne hF hy2 hy' e; omega]
        exact hK15 j y' hj hy'
      cases b' with
      | true=>exact pif_f (by rw [e0,decide_eq_true hlev]; rfl) (leave (fun h=>(kpi.1 h).2 (hb'.1 rfl)) k016 hs16 hE16 hM16 hK16n hO16)
      | false=>exact pif_t (by rw [e0,decide_eq_true hlev]; rfl) (stay (kpi.2 ⟨hlev,fun h=>by have:=hb'.2 h; cases this⟩) k016 hs16 hE16 hM16 hK16n hO16)
     ·have e2:((!((k:Int)==0))&&decide (y.lev>0))=false:=by rw [decide_eq_false hlev]; simp
      exact gd_f e2 (gd_f e2 (pif_f (by rw [e0,decide_eq_false hlev]; rfl) (leave (fun h=>hlev (kpi.1 h).1) k15 hs15 hE15 hM15 hK15 hO)))
   ·rintro ⟨⟨t,tn,tc⟩,⟨⟩⟩ w16 ⟨f',k16,hs16,hE16,hM16,hK16,htn,hO16,hob16⟩
    simp only [] at htn hO16 hob16 ⊢
    refine ldM_of (hE16.st.cell 0) (up_of u52 Tryz.underlying3 hE16.sm fun w17 hM17 k17 _=>?_)
    obtain ⟨hE17,hM017⟩:=hE16.put hM16 k17 hM17 h13 (hSp.next hl1).zero
    have z17:=k17.size
    refine ⟨f',_,k16.trans k17 fun j hj hh=>by have:j=r3:=hh; omega,by omega,hE17,hM017,hK16,hSp.next hl1,htn,hO16.keep k17 fun j hj hh=>?_,hob16⟩
    have:=hob16 j hj
    have:j=r3:=hh
    omega
 ·have hge:k=i:=by simp at hge; omega
  subst hge
  exact ⟨0,g,_,gc,_,rfl,hu,hO,fun j hj=>by have:=hob j hj; omega,fun _=>by rw [hcl],fun h=>absurd rfl h,k15⟩
end
end Go.Proofs.YtmhjehodfggleaaGreat.Learn

/- What a clash teaches: levels, the steps back, the answer. -/

set_option linter.unusedVariables false
set_option linter.unusedSimpArgs false
set_option maxRecDepth 100000
namespace Go.Proofs.YtmhjehodfggleaaGreat.Learn
open Go Go.Proofs.YtmhjehodfggleaaGreat.Vc Go.Proofs.YtmhjehodfggleaaGreat.T
open Go.Proofs.YtmhjehodfggleaaGreat.Apart (RdL own_rdl wrap_nat getE own_len copy same take_snoc Sl sv)
open Go.Proofs.YtmhjehodfggleaaGreat.Lits (Td Srt)
theorem fl_eq (l:Int):Lits.fl l=fl l:=rfl
def lvl (es:List En) (l:Int):Int:=match es.find? (fun x=>decide (x.lit=neg l)) with | some x=>x.lev | none=>0
section
variable {es:List En}
theorem lit_one (hF:Fm es) {i j:Nat} {x y:En} (hx:es[i]?=some x) (hy:es[j]?=some y) (h:x.lit=y.lit):i=j:=
 lit_ne hF hx hy (by rw [h])
theorem lvl_of (hF:Fm es) {i:Nat} {x:En} {l:Int} (hx:es[i]?=some x) (hl:x.lit=neg l):lvl es l=x.lev:=by
 unfold lvl
 cases hf:es.find? (fun x=>decide (x.lit=neg l)) with
 | none=>exact absurd (by simpa using hl) (List.find?_eq_none.1 hf x (List.mem_of_getElem? hx))
 | some y=>
  have hp:=List.find?_some hf
  obtain ⟨j,hj⟩:=List.mem_iff_getElem?.1 (List.mem_of_find?_eq_some hf)
  have hp:y.lit=neg l:=by simpa using hp
  obtain rfl:=lit_one hF hx hj (hl.trans hp.symm)
  rw [hx] at hj; injection hj with hj; rw [hj]
theorem lvl_none {l:Int} (h:∀y∈es,y.lit≠neg l):lvl es l=0:=by
 unfold lvl
 rw [List.find?_eq_none.2 fun y hy=>by simpa using h y hy]
theorem lev_run (hF:Fm es) (hn:es.length≤1048576):∀(i:Nat) (x:En),es[i]?=some x→0≤x.lev∧x.lev≤(i:Int)+1∧∀(j:Nat) (y:En),j≤i→es[j]?=some y→y.lev≤x.lev:=by
 intro i
 induction i with
 | zero=>
  intro x hx
  have h:=(hF 0 x hx).2.2.1.1
  have e:lastLev (es.take 0)=0:=rfl
  rw [e] at h
  have e2:IntKind.wrap .i64 (0+1)=1:=by decide +kernel
  rw [e2] at h
  refine ⟨by omega,by omega,fun j y hj hy=>?_⟩
  obtain rfl:j=0:=by omega
  rw [hx] at hy; injection hy with hy; rw [hy]; exact Int.le_refl _
 | succ i ih=>
  intro x hx
  have hi:=(List.getElem?_eq_some_iff.1 hx).1
  obtain ⟨z,hz⟩:=getE (show i<es.length by omega)
  obtain ⟨h0,h1,h2⟩:=ih z hz
  have h:=(hF (i+1) x hx).2.2.1.1
  rw [lastLev_snoc hz] at h
  have e2:IntKind.wrap .i64 (z.lev+1)=z.lev+1:=by rw [IntKind.wrap_i64]; omega
  rw [e2] at h
  refine ⟨by omega,by omega,fun j y hj hy=>?_⟩
  rcases Nat.lt_or_ge j (i+1) with hj2 | hj2
  ·have:=h2 j y (by omega) hy; omega
  ·obtain rfl:j=i+1:=by omega
   rw [hx] at hy; injection hy with hy; rw [hy]; exact Int.le_refl _
structure Gt (es:List En) (top:Int) (S:Int→Prop) (i:Nat) (x:En):Prop where
 at':es[i]?=some x
 lev:x.lev=top
 mem:S (neg x.lit)
 last:∀(j:Nat) (y:En),i<j→es[j]?=some y→y.lev=top→¬S (neg y.lit)
def nxt (S:Int→Prop) (x:En):Int→Prop:=fun l=>(S l∧l≠neg x.lit)∨(l∈x.rs∧l≠x.lit)
def Alone (es:List En) (top:Int) (S:Int→Prop) (x:En):Prop:=∀l,S l→lvl es l=top→l=neg x.lit
inductive Lrn (es:List En) (top:Int):(Int→Prop)→Int→(Int→Prop)→Prop
 | done {S:Int→Prop} {i:Nat} {x:En} (h:Gt es top S i x) (ha:Alone es top S x):Lrn es top S (neg x.lit) S
 | step {S F:Int→Prop} {i:Nat} {x:En} {o:Int} (h:Gt es top S i x) (ha:¬Alone es top S x) (hn:Lrn es top (nxt S x) o F):Lrn es top S o F
theorem Gt.uniq {top:Int} {S:Int→Prop} {i j:Nat} {x y:En} (h:Gt es top S i x) (h':Gt es top S j y):x=y:=by
 have:i=j:=by
  rcases Nat.lt_trichotomy i j with hl | hl | hl
  ·exact absurd h'.mem (h.last j y hl h'.at' h'.lev)
  ·exact hl
  ·exact absurd h.mem (h'.last i x hl h.at' h.lev)
 subst this
 have:=h.at'
 rw [h'.at'] at this
 injection this with this
 exact this.symm
theorem Lrn.uniq {top:Int} {S F F':Int→Prop} {o o':Int} (h:Lrn es top S o F) (h':Lrn es top S o' F'):o=o'∧F=F':=by
 induction h with
 | done h ha=>
  cases h' with
  | done h2 ha2=>rw [h.uniq h2]; exact ⟨rfl,rfl⟩
  | step h2 ha2 hn=>rw [h.uniq h2] at ha; exact absurd ha ha2
 | step h ha hn ih=>
  cases h' with
  | done h2 ha2=>rw [h.uniq h2] at ha; exact absurd ha2 ha
  | step h2 ha2 hn2=>rw [←h.uniq h2] at hn2; exact ih hn2
def Mx (es:List En) (M:Int→Prop) (b:Int):Prop:=(∀l,M l→lvl es l≤b)∧0≤b∧(b=0∨∃l,M l∧lvl es l=b)
theorem Mx.uniq {M M':Int→Prop} {b b':Int} (h:Mx es M b) (h':Mx es M' b') (hm:∀l,M l↔M' l):b=b':=by
 obtain ⟨h1,h2,h3⟩:=h
 obtain ⟨g1,g2,g3⟩:=h'
 rcases h3 with rfl | ⟨l,hl,rfl⟩
 ·rcases g3 with rfl | ⟨l,hl,rfl⟩
  ·rfl
  ·have:=h1 l ((hm l).2 hl); omega
 ·have:=g1 l ((hm l).1 hl)
  rcases g3 with rfl | ⟨l',hl',rfl⟩
  ·omega
  ·have:=h1 l' ((hm l').2 hl'); omega
theorem Mx.nil {M:Int→Prop} (h:∀l,¬M l):Mx es M 0:=⟨fun l hl=>absurd hl (h l),Int.le_refl _,Or.inl rfl⟩
theorem Mx.add {M M':Int→Prop} {b:Int} {l:Int} (h:Mx es M b) (hm:∀x,M' x↔M x∨x=l) (h0:0≤lvl es l):Mx es M' (if lvl es l>b then lvl es l else b):=by
 obtain ⟨h1,h2,h3⟩:=h
 split
 ·rename_i hg
  refine ⟨fun x hx=>?_,h0,Or.inr ⟨l,(hm l).2 (Or.inr rfl),rfl⟩⟩
  rcases (hm x).1 hx with hx | rfl
  ·have:=h1 x hx; omega
  ·exact Int.le_refl _
 ·rename_i hg
  refine ⟨fun x hx=>?_,h2,?_⟩
  ·rcases (hm x).1 hx with hx | rfl
   ·exact h1 x hx
   ·omega
  ·rcases h3 with h | ⟨x,hx,e⟩
   ·exact Or.inl h
   ·exact Or.inr ⟨x,(hm x).2 (Or.inl hx),e⟩
theorem Mx.same {M M':Int→Prop} {b:Int} (h:Mx es M b) (hm:∀l,M' l↔M l):Mx es M' b:=
 ⟨fun l hl=>h.1 l ((hm l).1 hl),h.2.1,h.2.2.imp id fun ⟨l,hl,e⟩=>⟨l,(hm l).2 hl,e⟩⟩
def LSpec (es:List En) (cs:List Int) (u back:Int) (cl:List Int):Prop:=
 Askd es cs u∧((u≠0∧cl=[]∧back=0)∨(u=0∧∃top,Mx es (·∈cs) top∧((top=0∧cl=[]∧back=-1)∨
  (0<top∧∃o F L,Lrn es top (·∈cs) o F∧Td (fun l=>F l∧l≠o∧0<lvl es l) L∧cl=o :: L∧Mx es (·∈L) back))))
theorem LSpec.uniq {cs:List Int} {u u' b b':Int} {cl cl':List Int} (h:LSpec es cs u b cl) (h':LSpec es cs u' b' cl'):u=u'∧b=b'∧cl=cl':=by
 obtain ⟨ha,h⟩:=h
 obtain ⟨ha',h'⟩:=h'
 obtain rfl:=ha.unique ha'
 refine ⟨rfl,?_⟩
 rcases h with ⟨hu,rfl,rfl⟩ | ⟨hu,top,hM,h⟩<;>rcases h' with ⟨hu',rfl,rfl⟩ | ⟨hu',top',hM',h'⟩
 ·exact ⟨rfl,rfl⟩
 ·exact absurd hu' hu
 ·exact absurd hu hu'
 ·obtain rfl:=hM.uniq hM' fun l=>Iff.rfl
  rcases h with ⟨ht,rfl,rfl⟩ | ⟨ht,o,F,L,hL,hT,rfl,hb⟩<;>rcases h' with ⟨ht',rfl,rfl⟩ | ⟨ht',o',F',L',hL',hT',rfl,hb'⟩
  ·exact ⟨rfl,rfl⟩
  ·omega
  ·omega
  ·obtain ⟨rfl,rfl⟩:=hL.uniq hL'
   obtain rfl:=hT.uniq hT' fun l _=>Iff.rfl
   exact ⟨hb.uniq hb' fun l=>Iff.rfl,rfl⟩
theorem Lrn.sub {top:Int} {S F:Int→Prop} {o:Int} (hF:Fm es) (hr:∀x∈es,∀l∈x.rs,l≠x.lit→fl l=true∧∃y∈es,y.lit=neg l) (h:Lrn es top S o F) :
  (∀l,S l→fl l=true∧∃y∈es,y.lit=neg l)→(∀l,F l→fl l=true∧∃y∈es,y.lit=neg l)∧F o:=by
 induction h with
 | done h ha=>exact fun hS=>⟨hS,h.mem⟩
 | step h ha hn ih=>
  intro hS
  refine ih fun l hl=>?_
  rcases hl with ⟨hl,_⟩ | ⟨hl,hne⟩
  ·exact hS l hl
  ·exact hr _ (List.mem_of_getElem? h.at') l hl hne
theorem rs_ok (hF:Fm es):∀x∈es,∀l∈x.rs,l≠x.lit→fl l=true∧∃y∈es,y.lit=neg l:=by
 intro x hx l hl hne
 obtain ⟨i,hi⟩:=List.mem_iff_getElem?.1 hx
 have hr:=(hF i x hi).2.2.2 (fun e=>by rw [e] at hl; cases hl)
 obtain ⟨y,hy,e⟩:=hr.2.2 l hl hne
 exact ⟨List.all_eq_true.1 hr.1 l hl,y,(List.take_sublist _ _).subset hy,e⟩
theorem rs_ahead (hF:Fm es) {i:Nat} {x:En} (hx:es[i]?=some x) {l:Int} (hl:l∈x.rs) (hne:l≠x.lit):∃j y,j<i∧es[j]?=some y∧y.lit=neg l:=by
 have hr:=(hF i x hx).2.2.2 (fun e=>by rw [e] at hl; cases hl)
 obtain ⟨y,hy,e⟩:=hr.2.2 l hl hne
 obtain ⟨j,hj⟩:=List.mem_iff_getElem?.1 hy
 rw [List.getElem?_take] at hj
 split at hj
 ·rename_i h; exact ⟨j,y,h,hj,e⟩
 ·cases hj
theorem at_uniq (hF:Fm es) {i:Nat} {x:En} (hx:es[i]?=some x) {j:Nat} {y:En} {l:Int} (hy:es[j]?=some y) (hyl:y.lit=neg l) (hl:neg x.lit=l):i=j:=by
 have f1:=(hF i x hx).1
 exact lit_one hF hx hy (by rw [hyl,←hl,neg_neg f1])
end
end Go.Proofs.YtmhjehodfggleaaGreat.Learn

/- The program's Learn. -/

set_option linter.unusedVariables false
set_option linter.unusedSimpArgs false
set_option maxRecDepth 100000
namespace Go.Proofs.YtmhjehodfggleaaGreat.Learn
open Go Go.Proofs.YtmhjehodfggleaaGreat.Vc Go.Proofs.YtmhjehodfggleaaGreat.T
open Go.Proofs.YtmhjehodfggleaaGreat.Apart (RdL own_rdl wrap_nat getE own_len copy same take_snoc Sl sv)
open Go.Proofs.YtmhjehodfggleaaGreat.Lits (Td Srt)
def keys (f:List (Int×Int)):List Int:=f.map fun p:Int×Int=>p.1
structure In (f:List (Int×Int)) (S:Int→Prop):Prop where
 nd:(keys f).Nodup
 mem:∀l,l∈keys f↔S l
 one:∀p∈f,p.2=1
theorem mget_in (l:Int):∀{f:List (Int×Int)},(∀p∈f,p.2=1)→mget l f=if l∈keys f then 1 else 0:=by
 intro f
 induction f with
 | nil=>intro _; rfl
 | cons p f ih=>
  intro h
  unfold mget
  by_cases hp:p.1=l
  ·rw [if_pos hp,h p (by simp),if_pos (by simp [keys,hp])]
  ·rw [if_neg hp,ih fun q hq=>h q (by simp [hq])]
   have:l∈keys (p :: f)↔l∈keys f:=by
    simp only [keys,List.map_cons,List.mem_cons]
    exact ⟨fun h=>h.elim (fun e=>absurd e.symm hp) id,Or.inr⟩
   simp only [this]
theorem mput_mem {k v:Int} {p:Int×Int} : ∀{f:List (Int×Int)},p∈mput k v f→p∈f∨p=(k,v):=by
 intro f
 induction f with
 | nil=>intro h; simp [mput] at h; exact Or.inr h
 | cons q f ih=>
  intro h
  unfold mput at h
  split at h
  ·rcases List.mem_cons.1 h with h | h
   ·exact Or.inr h
   ·exact Or.inl (by simp [h])
  ·rcases List.mem_cons.1 h with h | h
   ·exact Or.inl (by simp [h])
   ·exact (ih h).imp (fun h=>by simp [h]) id
theorem mhas_keys (k:Int):∀f:List (Int×Int),mhas k f=true↔k∈keys f:=by
 intro f
 induction f with
 | nil=>simp [mhas,keys]
 | cons p f ih=>
  simp only [mhas,Bool.or_eq_true,decide_eq_true_eq,ih,keys,List.map_cons,List.mem_cons]
  exact ⟨fun h=>h.imp Eq.symm id,fun h=>h.imp Eq.symm id⟩
theorem In.get {f:List (Int×Int)} {S:Int→Prop} (h:In f S) (l:Int):(S l∧mget l f=1)∨(¬S l∧mget l f=0):=by
 rw [mget_in l h.one]
 by_cases hl:S l
 ·exact Or.inl ⟨hl,if_pos ((h.mem l).2 hl)⟩
 ·exact Or.inr ⟨hl,if_neg fun hh=>hl ((h.mem l).1 hh)⟩
theorem In.put {f:List (Int×Int)} {S:Int→Prop} (h:In f S) (l:Int):In (mput l 1 f) (fun x=>S x∨x=l):=by
 have hk:keys (mput l 1 f)=addS (keys f) l:=mput_keys l 1 f
 refine ⟨?_,fun x=>?_,fun p hp=>?_⟩
 ·rw [hk]
  unfold addS
  split
  ·exact h.nd
  ·rename_i hno
   rw [List.nodup_append]
   exact ⟨h.nd,by simp,fun a ha b hb=>by simp at hb; subst hb; exact fun e=>hno (e ▸ ha)⟩
 ·rw [hk]
  unfold addS
  split
  ·rename_i hin
   rw [h.mem]
   exact ⟨Or.inl,fun hh=>hh.elim id fun e=>by rw [e]; exact (h.mem l).1 hin⟩
  ·rw [List.mem_append,List.mem_singleton,h.mem]
 ·rcases mput_mem hp with hp | rfl
  ·exact h.one p hp
  ·rfl
theorem keys_del {k:Int} : ∀{f:List (Int×Int)},(keys f).Nodup→(keys (mdel k f)).Nodup∧(∀l,l∈keys (mdel k f)↔l∈keys f∧l≠k):=by
 intro f
 induction f with
 | nil=>intro _; exact ⟨List.nodup_nil,fun l=>⟨fun h=>by simp [keys,mdel] at h,fun h=>by simp [keys] at h⟩⟩
 | cons p f ih=>
  intro hn
  have hn':p.1∉keys f∧(keys f).Nodup:=by simpa [keys] using hn
  unfold mdel
  split
  ·rename_i hp
   refine ⟨hn'.2,fun l=>⟨fun h=>⟨by simp only [keys,List.map_cons,List.mem_cons]; exact Or.inr h,fun e=>hn'.1 (by rw [hp,←e]; exact h)⟩,fun ⟨h,hne⟩=>?_⟩⟩
   simp only [keys,List.map_cons,List.mem_cons] at h
   exact h.elim (fun e=>absurd (e.trans hp) hne) id
  ·rename_i hp
   obtain ⟨h1,h2⟩:=ih hn'.2
   have e:keys (p :: mdel k f)=p.1 :: keys (mdel k f):=rfl
   have e2:keys (p :: f)=p.1 :: keys f:=rfl
   rw [e,e2]
   refine ⟨List.nodup_cons.2 ⟨fun h=>hn'.1 ((h2 _).1 h).1,h1⟩,fun l=>?_⟩
   rw [List.mem_cons,List.mem_cons,h2]
   exact ⟨fun h=>h.elim (fun e=>⟨Or.inl e,by rw [e]; exact hp⟩) fun h=>⟨Or.inr h.1,h.2⟩,fun ⟨h,hne⟩=>h.elim Or.inl fun h=>Or.inr ⟨h,hne⟩⟩
theorem mdel_sub {k:Int} {p:Int×Int} : ∀{f:List (Int×Int)},p∈mdel k f→p∈f:=by
 intro f
 induction f with
 | nil=>intro h; cases h
 | cons q f ih=>
  intro h
  unfold mdel at h
  split at h
  ·simp [h]
  ·rcases List.mem_cons.1 h with h | h
   ·simp [h]
   ·simp [ih h]
theorem In.del {f:List (Int×Int)} {S:Int→Prop} (h:In f S) (l:Int):In (mdel l f) (fun x=>S x∧x≠l):=
 ⟨(keys_del h.nd).1,fun x=>by rw [(keys_del h.nd).2,h.mem],fun p hp=>h.one p (mdel_sub hp)⟩
theorem In.iff {f:List (Int×Int)} {S S':Int→Prop} (h:In f S) (hs:∀l,S' l↔S l):In f S':=⟨h.nd,fun l=>by rw [h.mem,hs],h.one⟩
theorem In.len {f:List (Int×Int)} {S:Int→Prop} (h:In f S) (hf:∀l,S l→fl l=true):f.length≤2097153:=by
 have:=pigeon (-1048576) 2097153 (keys f) h.nd fun x hx=>by
  have:=fl_iff.1 (hf x ((h.mem x).1 hx))
  omega
 simpa [keys] using this
def cnt (es:List En) (top:Int) (f:List (Int×Int)):Nat:=(f.filter fun p:Int×Int=>decide (lvl es p.1=top)).length
section
variable {es:List En} {top:Int} {f:List (Int×Int)} {S:Int→Prop}
theorem cnt_put (h:In f S) {l:Int} (hl:¬S l):cnt es top (mput l 1 f)=cnt es top f+if lvl es l=top then 1 else 0:=by
 have hm:mhas l f=false:=by
  rw [←Bool.not_eq_true,mhas_keys]; exact fun hh=>hl ((h.mem l).1 hh)
 rw [mput_no hm]
 unfold cnt
 rw [List.filter_append,List.length_append]
 congr 1
 by_cases e:lvl es l=top
 ·rw [if_pos e,List.filter_cons_of_pos (by simpa using e)]; rfl
 ·rw [if_neg e,List.filter_cons_of_neg (by simpa using e)]; rfl
theorem cnt_del {l:Int} : ∀{f:List (Int×Int)},l∈keys f→cnt es top (mdel l f)+(if lvl es l=top then 1 else 0)=cnt es top f:=by
 intro f
 induction f with
 | nil=>intro h; simp [keys] at h
 | cons p f ih=>
  intro h
  unfold mdel
  by_cases hp:p.1=l
  ·rw [if_pos hp]
   unfold cnt
   by_cases e:lvl es l=top
   ·rw [if_pos e,List.filter_cons_of_pos (by simpa [hp] using e)]; rfl
   ·rw [if_neg e,List.filter_cons_of_neg (by simpa [hp] using e)]; rfl
  ·rw [if_neg hp]
   have h':l∈keys f:=by
    simp only [keys,List.map_cons,List.mem_cons] at h
    exact h.elim (fun e=>absurd e.symm hp) id
   have ih:=ih h'
   unfold cnt at ih ⊢
   by_cases e:lvl es p.1=top
   ·rw [List.filter_cons_of_pos (by simpa using e),List.filter_cons_of_pos (by simpa using e),List.length_cons,List.length_cons]; omega
   ·rw [List.filter_cons_of_neg (by simpa using e),List.filter_cons_of_neg (by simpa using e)]; exact ih
theorem cnt_pos (h:In f S) (hc:1≤cnt es top f):∃l,S l∧lvl es l=top:=by
 unfold cnt at hc
 obtain ⟨p,hp⟩:=getE (show 0<(f.filter fun p:Int×Int=>decide (lvl es p.1=top)).length by omega)
 have hm:=List.mem_filter.1 (List.mem_of_getElem? hp)
 exact ⟨p.1,(h.mem _).1 (List.mem_map.2 ⟨p,hm.1,rfl⟩),by simpa using hm.2⟩
theorem cnt_one (h:In f S) {l0:Int} (h0:S l0) (h1:lvl es l0=top):cnt es top f=1↔∀l,S l→lvl es l=top→l=l0:=by
 have hnd:((f.filter fun p:Int×Int=>decide (lvl es p.1=top)).map fun p:Int×Int=>p.1).Nodup:=h.nd.sublist ((List.filter_sublist ..).map _)
 have hmem:∀l,S l→lvl es l=top→l∈(f.filter fun p:Int×Int=>decide (lvl es p.1=top)).map fun p:Int×Int=>p.1:=fun l hl ht=>by
  obtain ⟨p,hp,rfl⟩:=List.mem_map.1 ((h.mem l).2 hl)
  exact List.mem_map.2 ⟨p,List.mem_filter.2 ⟨hp,by simpa using ht⟩,rfl⟩
 have hback:∀l∈(f.filter fun p:Int×Int=>decide (lvl es p.1=top)).map fun p:Int×Int=>p.1,S l∧lvl es l=top:=fun l hl=>by
  obtain ⟨p,hp,rfl⟩:=List.mem_map.1 hl
  have:=List.mem_filter.1 hp
  exact ⟨(h.mem _).1 (List.mem_map.2 ⟨p,this.1,rfl⟩),by simpa using this.2⟩
 have hGl:((f.filter fun p:Int×Int=>decide (lvl es p.1=top)).map fun p:Int×Int=>p.1).length=cnt es top f:=by simp [cnt]
 rw [←hGl]
 clear hGl
 generalize (f.filter fun p:Int×Int=>decide (lvl es p.1=top)).map (fun p:Int×Int=>p.1)=G at *
 constructor
 ·intro hG l hl ht
  obtain ⟨g,rfl⟩:=List.length_eq_one_iff.1 hG
  have a:=hmem l hl ht
  have b:=hmem l0 h0 h1
  simp at a b
  rw [a,b]
 ·intro hall
  match G,hnd,hback,hmem l0 h0 h1 with
  | [g],_,_,_=>rfl
  | a :: b :: t,hnd,hback,_=>
   have e1:=hall a (hback a (by simp)).1 (hback a (by simp)).2
   have e2:=hall b (hback b (by simp)).1 (hback b (by simp)).2
   rw [e1,e2] at hnd
   simp at hnd
theorem cnt_perm {g:List (Int×Int)} (h:f.Perm g):cnt es top f=cnt es top g:=(h.filter _).length_eq
theorem cnt_cons (p:Int×Int) (g:List (Int×Int)):cnt es top (p :: g)=cnt es top g+if lvl es p.1=top then 1 else 0:=by
 unfold cnt
 by_cases e:lvl es p.1=top
 ·rw [if_pos e,List.filter_cons_of_pos (by simpa using e)]; rfl
 ·rw [if_neg e,List.filter_cons_of_neg (by simpa using e)]; rfl
end
def Learnt (es:List En) (cs:List Int) (w:World) (v:Value) (w':World):Prop:=∃(u back:Int) (g:Option Addr) (gn gc:Nat) (cl:List Int),v=.tuple #[.slice g gn gc,I back,I u]∧LSpec es cs u back cl∧Own w' 3 1 g gn gc (cl.map I)∧(∀j,ob g j→w.heap.size≤j)∧Keep None w w'
section
variable {w w':World} {p q:Option Addr} {n m c d:Nat} {es:List En} {cs:List Int}
structure Sr (w:World) (es:List En) (b2 b7 ra:Nat) (p:Option Addr) (n c:Nat) (fa:List (Int×Int)):Prop where
 rd:RdE w p n es
 tr:Blk w b2 [.slice p n c] 79
 am:Blk w b7 [.map (some ra)] 168
 mp:Mp w ra fa
 pm:Pm fa es
theorem Sr.keep0 {b2 b7 ra:Nat} {fa:List (Int×Int)} (h:Sr w es b2 b7 ra p n c fa) (hk:Keep None w w'):Sr w' es b2 b7 ra p n c fa:=
 ⟨h.rd.keep0 hk,h.tr.keep0 hk,h.am.keep0 hk,h.mp.keep0 hk,h.pm⟩
theorem level47 {b2 b7 ra:Nat} {fa:List (Int×Int)} (hF:Fm es) (hn:n≤1048576) (h:Sr w es b2 b7 ra p n c fa) {l:Int} (hl:fl l=true) (hm:∃y∈es,y.lit=neg l) {R:Ending→World→Prop}
  (hR:∀w',Keep None w w'→R (.returned (I (lvl es l))) w') :
  clF Tryz.prog (.func (.func 100) #[] #[.pointer (some (⟨b2,0,none⟩:Addr)),.pointer (some (⟨b7,0,none⟩:Addr))]) [I l] w R:=by
 refine clF_of ⟨ok100,?_⟩
 refine ((V100_calls l ⟨b2,0,none⟩ ⟨b7,0,none⟩ w (fun v w'=>v=I (lvl es l)∧Keep None w w') ?_).mono fun e w' ⟨v,he,hv,hk⟩=>by rw [he,hv]; exact hR w' hk)
 unfold V100
 obtain ⟨y,hy,hyl⟩:=hm
 obtain ⟨i,hi⟩:=List.mem_iff_getElem?.1 hy
 have hat:=at_of hF h.pm hi
 rw [hyl,neg_neg hl] at hat
 refine ldC_of (h.tr.cell 0) (ldM_of (h.am.cell 0) (lk_of u52 Tryz.underlying3 z3 h.mp ?_))
 have hlt:=(List.getElem?_eq_some_iff.1 hi).1
 have hl:=h.rd.len
 have e1:IntKind.wrap .i64 ((i:Int)+1 - 1)=(i:Int):=by rw [IntKind.wrap_i64]; omega
 rw [hat,e1]
 refine h.rd.ix hi fun a ⟨_,_,_,_,c1,_⟩=>ldI_of c1 ⟨?_,Keep.refl _ _⟩
 rw [lvl_of hF hi hyl]
theorem learn20 (hE:RdE w p n es) (hn:n≤1048576) (hr:∀x∈es,x.rs.length≤1048576) (hC:RdL w q m cs) (hm:m≤1048576) :
  Calls Tryz.prog 54 #[.slice p n c,.slice q m d] w fun e w'=>∃v,e=.returned v∧Learnt es cs w v w':=by
 refine V54_calls p n c q m d w (Learnt es cs w) ?_
 unfold V54
 have hcl:=hC.len
 have hel:=hE.len
 refine alc_at fun b2 w1 hb2 hB2 k1=>?_
 refine ldC_of (hB2.cell 0) ?_
 refine cl_of ok98 (places40 (hE.keep0 k1) (by omega)) fun e w2 ⟨ra,fa,he,hra,hM,hP,k2⟩=>⟨_,he,?_⟩
 refine alc_at fun b7 w3 hb7 hB7 k3=>?_
 simp only [add_mk,Nat.add_zero,Nat.zero_add]
 refine st_of hB7 (by simp) rfl fun w4 hB7 k4 e4=>?_
 simp only [List.set_cons_zero] at hB7
 have k34:Keep None w2 w4:=k3.then1 k4 (by omega)
 have hB2:=(hB2.keep0 k2).keep0 k34
 have hM:=hM.keep0 k34
 have k04:=(k1.then0 k2).then0 k34
 refine ldC_of (hB2.cell 0) (ldM_of (hB7.cell 0) ?_)
 refine cl_of ok99 (asked43 (hE.keep0 k04) hn hr (hC.keep0 k04) hm hM hP) fun e w5 ⟨u,he,hu,k5⟩=>⟨_,he,?_⟩
 have k05:=k04.then0 k5
 by_cases hu0:u=0
 case neg=>
  exact pif_t (by simpa using hu0) ⟨u,0,none,0,0,[],rfl,⟨hu,Or.inl ⟨hu0,rfl,rfl⟩⟩,Own.nil _ _ _,(fun i ⟨a,h,_⟩=>by cases h),k05⟩
 subst hu0
 have hu':=hu
 obtain ⟨hFals,hF,hall⟩:Fals es cs∧Fm es∧cs.all fl=true:=by
  rcases hu with ⟨h,_⟩ | ⟨h,_⟩ | ⟨_,h⟩
  ·cases h
  ·cases h
  ·exact h
 have hrun:=lev_run hF (by omega)
 refine pif_f rfl ?_
 have hSr:Sr w5 es b2 b7 ra p n c fa:=⟨hE.keep0 k05,hB2.keep0 k5,hB7.keep0 k5,hM.keep0 k5,hP⟩
 have hok:∀l∈cs,fl l=true∧∃y∈es,y.lit=neg l:=fun l hl=>⟨List.all_eq_true.1 hall l hl,hFals l hl⟩
 have lv0:∀l,(∃y∈es,y.lit=neg l)→0≤lvl es l:=fun l ⟨y,hy,e⟩=>by
  obtain ⟨i,hi⟩:=List.mem_iff_getElem?.1 hy
  rw [lvl_of hF hi e]; exact (hrun i y hi).1
 refine mkmapS_of fun r w6 hrw hM6 k6=>?_
 refine lp_of (fun s W=>∃(i:Nat) (f:List (Int×Int)),s.2.1=(i:Int)∧i≤m∧Mx es (·∈cs.take i) s.1∧In f (·∈cs.take i)∧Ms W r f∧Keep None w5 W) (fun s _=>(m - s.2.1).toNat)
  ⟨0,[],rfl,Nat.zero_le _,Mx.nil (fun l (h:l∈cs.take 0)=>by cases h),⟨List.nodup_nil,fun l=>by simp [keys],fun p h=>by cases h⟩,hM6,k6⟩ ?_
 rintro ⟨top,i',⟨⟩⟩ W ⟨i,f,rfl,hi,hMx,hIn,hMs,kW⟩
 simp only [] at hMx ⊢
 refine pif_of (fun hlt=>?_) fun hge=>?_
 ·have hlt:i<m:=by simpa using hlt
  rw [wrap_nat i (by omega)]
  refine (hC.keep0 (k05.then0 kW)).ix hlt fun a l hl ha=>ldI_of ha ?_
  have hlo:=hok l (List.mem_of_getElem? hl)
  refine level47 hF hn (hSr.keep0 kW) hlo.1 hlo.2 fun W1 k1'=>⟨_,rfl,?_⟩
  refine upS_of u52 Tryz.underlying3 (hMs.keep0 k1') fun W2 hMs2 k2' z2=>⟨⟨i+1,mput l 1 f,rfl,hlt,?_,?_,hMs2,(kW.then0 k1').trans k2' fun j hj h=>by have:j=r:=h; omega⟩,by omega⟩
  ·exact hMx.add (fun x=>by rw [take_snoc hl,List.mem_append,List.mem_singleton]) (lv0 l hlo.2)
  ·exact (hIn.put l).iff fun x=>by rw [take_snoc hl,List.mem_append,List.mem_singleton]
 have hge:i=m:=by simp at hge; omega
 subst hge
 rw [←hcl,List.take_length] at hMx hIn
 by_cases ht0:top=0
 ·subst ht0
  exact pif_t rfl ⟨0,-1,none,0,0,[],rfl,⟨hu',Or.inr ⟨rfl,0,hMx,Or.inl ⟨rfl,rfl,rfl⟩⟩⟩,Own.nil _ _ _,(fun i ⟨a,h,_⟩=>by cases h),k05.then0 kW⟩
 have htop:0<top:=by have:=hMx.2.1; omega
 refine pif_f (by simpa using ht0) ?_
 have hwr:w5.heap.size≤r:=by omega
 refine range_of u52 hMs fun q37 w10 hq37 hIt k10=>?_
 have sz10:=kW.size
 have hq5:w5.heap.size≤q37:=by omega
 -- how many are of the greatest level
 refine lp_of (fun s V=>∃(k:Nat) (todo:List (Int×Int)),s.1=(k:Int)∧It V q37 r f todo∧k+cnt es top todo=cnt es top f∧(∀p∈todo,p∈f)∧Keep None w5 V∧w10.heap.size≤V.heap.size) (fun s V=>leftM V r q37)
  ⟨0,f,rfl,hIt,by omega,fun p h=>h,kW.then0 k10,Nat.le_refl _⟩ ?_
 rintro ⟨v38,⟨⟩⟩ V ⟨k,todo,rfl,hItV,hk,hsub,kV,szV⟩
 simp only []
 have flen:=hIn.len fun l hl=>(hok l hl).1
 have klt:k≤f.length:=by
  have:cnt es top f≤f.length:=List.length_filter_le ..
  omega
 refine next_of hItV hItV.ne (fun h0=>?_) fun p0 todo' V' hp0 hperm hIt' kq sq hent=>?_
 case _=>
  -- on to the steps back
  subst h0
  have hkc:k=cnt es top f:=by simpa [cnt] using hk
  subst hkc
  refine pif_f rfl (ldC_of ((hSr.keep0 kV).tr.cell 0) ?_)
  have hcpos:1≤cnt es top f:=by
   rcases hMx.2.2 with h | ⟨l,hl,e⟩
   ·omega
   ·have h1:cnt es top (mdel l f)+(if lvl es l=top then 1 else 0)=cnt es top f:=cnt_del ((hIn.mem l).2 hl)
    rw [if_pos e] at h1; omega
  have eN:IntKind.wrap .i64 ((n:Int) - 1)=(n:Int) - 1:=by rw [IntKind.wrap_i64]; omega
  rw [eN]
  refine lp_of (fun s X=>∃(f:List (Int×Int)) (S:Int→Prop),s.1=(cnt es top f:Nat)∧-1≤s.2.1∧s.2.1<n∧In f S∧(∀l,S l→fl l=true∧∃y∈es,y.lit=neg l)∧(∀l,S l→lvl es l≤top)∧1≤cnt es top f∧
    (∀(j:Nat) (y:En),s.2.1<(j:Int)→es[j]?=some y→y.lev=top→¬S (neg y.lit))∧(∀o F,Lrn es top S o F→Lrn es top (·∈cs) o F)∧Ms X r f∧Keep None w5 X) (fun s _=>(s.2.1+1).toNat)
   ⟨f,(·∈cs),rfl,by show -1≤(n:Int) - 1; omega,by show (n:Int) - 1<n; omega,hIn,hok,hMx.1,hcpos,fun j y hj hy=>?_,fun o F h=>h,hItV.ms,kV⟩ ?_
  ·have:=(List.getElem?_eq_some_iff.1 hy).1
   have:(n:Int) - 1<j:=hj
   omega
  clear hIn hMs hk hIt hItV hsub klt flen hcpos kV kW k10 hq37 sz10 szV hrw
  rintro ⟨v54,v55,⟨⟩⟩ X ⟨f,S,rfl,hi0,hin,hIn,hS,hSl,hcpos,hbeh,hLr,hMs,kX⟩
  simp only [] at hi0 hin hbeh ⊢
  obtain ⟨i,rfl⟩:∃i:Nat,v55=(i:Int):=by
   obtain ⟨l,hl,e⟩:=cnt_pos hIn hcpos
   obtain ⟨hfl,y,hy,hyl⟩:=hS l hl
   obtain ⟨j,hj⟩:=List.mem_iff_getElem?.1 hy
   rw [lvl_of hF hj hyl] at e
   have hny:neg y.lit=l:=by rw [hyl,neg_neg hfl]
   have:¬v55<(j:Int):=fun h=>hbeh j y h hj e (by rw [hny]; exact hl)
   exact ⟨v55.toNat,by omega⟩
  obtain ⟨x,hx⟩:=getE (show i<es.length by omega)
  have hxf:=(hF i x hx).1
  have hxm:=List.mem_of_getElem? hx
  have eI:IntKind.wrap .i64 ((i:Int) - 1)=(i:Int) - 1:=by rw [IntKind.wrap_i64]; omega
  refine jn_of ?_
  have hSX:=hSr.keep0 kX
  refine ldC_of (hSX.tr.cell 0) (hSX.rd.ix hx fun a0 ⟨_,_,_,c0,c1,c2,hq0⟩=>ldI_of c0 (lk_of u52 Tryz.underlying3 z3 hMs.mp ?_))
  have goOn:(x.lev=top→¬S (neg x.lit))→(∃(g:List (Int×Int)) (S:Int→Prop),((cnt es top f:Nat):Int)=(cnt es top g:Nat)∧-1≤(i:Int) - 1∧(i:Int) - 1<n∧In g S∧(∀l,S l→fl l=true∧∃y∈es,y.lit=neg l)∧(∀l,S l→lvl es l≤top)∧1≤cnt es top g∧
    (∀(j:Nat) (y:En),(i:Int) - 1<(j:Int)→es[j]?=some y→y.lev=top→¬S (neg y.lit))∧(∀o F,Lrn es top S o F→Lrn es top (·∈cs) o F)∧Ms X r g∧Keep None w5 X)∧((i:Int) - 1+1).toNat<((i:Int)+1).toNat:=by
   intro hno
   refine ⟨⟨f,S,rfl,by omega,by omega,hIn,hS,hSl,hcpos,fun j y hj hy hyt=>?_,hLr,hMs,kX⟩,by omega⟩
   by_cases hji:(i:Int)<j
   ·exact hbeh j y hji hy hyt
   ·obtain rfl:j=i:=by omega
    rw [hx] at hy; injection hy with hy; subst hy
    exact hno hyt
  rcases hIn.get (neg x.lit) with ⟨hSx,e1⟩ | ⟨hSx,e1⟩
  case inr=>
   rw [show mget (IntKind.wrap .i64 (0 - x.lit)) f=0 from e1]
   refine gd_f rfl (gd_f rfl (gd_f rfl (pif_t rfl ?_)))
   rw [eI]
   exact goOn fun _=>hSx
  rw [show mget (IntKind.wrap .i64 (0 - x.lit)) f=1 from e1]
  refine gd_t rfl (ldC_of (hSX.tr.cell 0) (gd_t rfl (hSX.rd.ix hx fun a1 ⟨_,_,_,_,d1,_⟩=>gd_t rfl (ldI_of d1 ?_))))
  by_cases hlev:x.lev=top
  case neg=>
   refine pif_t (by simpa using hlev) ?_
   rw [eI]
   exact goOn fun h=>absurd h hlev
  refine pif_f (by simp [hlev]) ?_
  have hGt:Gt es top S i x:=⟨hx,hlev,hSx,fun j y hj hy hyt=>hbeh j y (by omega) hy hyt⟩
  have hlx:lvl es (neg x.lit)=top:=by rw [lvl_of hF hx (neg_neg hxf).symm]; exact hlev
  have h1:=cnt_one hIn hSx hlx
  have flen:=hIn.len fun l hl=>(hS l hl).1
  by_cases hc1:cnt es top f=1
  ·-- one alone is left
   refine pif_t (by simp [hc1]) ?_
   have hAl:Alone es top S x:=h1.1 hc1
   have hL:=hLr _ _ (Lrn.done hGt hAl)
   refine range_of u52 hMs fun q79 w21 hq79 hIt k21=>?_
   have szX:=kX.size
   have hrX:=hMs.lt
   refine lp_of (fun s V=>∃(todo:List (Int×Int)) (os:List Int),It V q79 r f todo∧s.2.1.2.1=os.length∧os.length+todo.length≤f.length∧Own V 3 1 s.2.1.1 s.2.1.2.1 s.2.1.2.2 (os.map I)∧(∀j,ob s.2.1.1 j→q79<j)∧Keep None w5 V∧q79<V.heap.size∧
     (keys todo).Nodup∧(∀l,l∈os↔(S l∧l∉keys todo)∧l≠neg x.lit∧0<lvl es l)∧(∀p∈todo,p∈f)∧Mx es (·∈os) s.1) (fun s V=>leftM V r q79)
    ⟨f,[],hIt,rfl,by simp,Own.nil _ _ _,(fun i ⟨a,h,_⟩=>by cases h),kX.then0 k21,by have:=hIt.lt; omega,hIn.nd,(fun l=>⟨(fun h=>by cases h),fun h=>absurd ((hIn.mem l).2 h.1.1) h.1.2⟩),(fun p h=>h),Mx.nil (fun l (h:l∈([]:List Int))=>by cases h)⟩ ?_
   rintro ⟨bk,⟨v81,v81n,v81c⟩,⟨⟩⟩ V ⟨todo,os,hItV,hosn,hlen,hO,hfr,kV,hqV,hnd,hos,hsub,hMxo⟩
   simp only [] at hosn hO hfr hMxo ⊢
   refine next_of hItV hItV.ne (fun h0=>?_) fun p0 todo' V' hp0 hperm hIt' kq sq hent=>?_
   ·-- all are gone through
    subst h0
    refine pif_f rfl (alc_at fun b102 w30 hb102 hB102 k30=>?_)
    have hO30:=hO.keep0 k30
    refine cl_of ok47 (Lits.tidyP (own_rdl hO30) (by omega)) fun e w31 ⟨v,L,he,hT,g,gc,hv,hOg,hgf,k31⟩=>⟨_,_,_,he.trans (congrArg Ending.returned hv),?_⟩
    have hTl:=hT.len
    have hB31:=hB102.keep0 k31
    have hOne:Own w31 3 1 (some ⟨b102,0,none⟩) 1 1 [I (neg x.lit)]:=Or.inr ⟨b102,_,rfl,hB31,Nat.le_refl _,by simp only [maxLen]; omega,rfl,rfl⟩
    refine app_of (e:=3) (sz:=1) (z:=I 0) (B:=8) Tryz.underlying49 (by kernel_rfl) rfl (by omega) hOne hOg.news (fun u hu=>?_) (by simp only [maxLen]; omega) (by omega) fun p' c' w32 hO32 kk hpp=>?_
    ·obtain ⟨y,_,rfl⟩:=List.mem_map.1 hu; rfl
    have szV:=kV.size
    have sz30:=k30.size
    have sz31:=k31.size
    have kE:Keep None w5 w32:=((kV.then0 k30).then0 k31).trans kk fun j hj ⟨a,h,h'⟩=>by cases h; simp only [] at h'; omega
    have sz5:=k05.size
    refine ⟨0,bk,p',1+L.length,c',neg x.lit :: L,rfl,⟨hu',Or.inr ⟨rfl,top,hMx,Or.inr ⟨htop,neg x.lit,S,L,hL,⟨hT.srt,fun l=>?_⟩,rfl,?_⟩⟩⟩,hO32,fun j hj=>?_,k05.then0 kE⟩
    ·rw [hT.mem,hos]
     simp only [keys,List.map_nil,List.not_mem_nil,not_false_eq_true,and_true]
    ·refine hMxo.same fun l=>?_
     rw [hT.mem]
     exact ⟨fun h=>h.1,fun h=>⟨h,(hS l ((hos l).1 h).1.1).1⟩⟩
    ·rcases hpp j hj with ⟨a,h,h'⟩ | h
     ·cases h; simp only [] at h'; omega
     ·omega
   ·refine pif_t rfl ⟨_,_,_,hent,?_⟩
    have hp0S:S p0.1:=(hIn.mem _).1 (List.mem_map.2 ⟨p0,hsub p0 hp0,rfl⟩)
    obtain ⟨hpf,hpe⟩:=hS _ hp0S
    have kV':Keep None w5 V':=kV.trans kq fun j hj h=>by have:j=q79:=h; omega
    have hnd':p0.1∉keys todo'∧(keys todo').Nodup:=by
     have:=(hperm.map fun p:Int×Int=>p.1).nodup_iff.1 hnd
     simpa [keys] using this
    have hkp:∀l,l∈keys todo↔l=p0.1∨l∈keys todo':=fun l=>by
     have:=(hperm.map fun p:Int×Int=>p.1).mem_iff (a:=l)
     simpa [keys] using this
    have hlen':todo.length=todo'.length+1:=by have:=hperm.length_eq; simpa using this
    have hsub':∀p∈todo',p∈f:=fun p hp=>hsub p (hperm.mem_iff.2 (by simp [hp]))
    have hO':Own V' 3 1 v81 v81n v81c (os.map I):=hO.keep kq fun j hj h=>by have:=hfr j hj; have:j=q79:=h; omega
    have hqV':q79<V'.heap.size:=by omega
    have lft:∀{Y:World},It Y q79 r f todo'→leftM Y r q79<leftM V r q79:=fun h=>by rw [h.left,hItV.left]; omega
    have skip:∀{Y:World},Keep None V' Y→(p0.1=neg x.lit∨¬0<lvl es p0.1)→(∃(todo:List (Int×Int)) (os':List Int),It Y q79 r f todo∧v81n=os'.length∧os'.length+todo.length≤f.length∧Own Y 3 1 v81 v81n v81c (os'.map I)∧(∀j,ob v81 j→q79<j)∧Keep None w5 Y∧q79<Y.heap.size∧
      (keys todo).Nodup∧(∀l,l∈os'↔(S l∧l∉keys todo)∧l≠neg x.lit∧0<lvl es l)∧(∀p∈todo,p∈f)∧Mx es (·∈os') bk)∧leftM Y r q79<leftM V r q79:=by
     intro Y kY hno
     have hItY:=hIt'.keep0 kY
     refine ⟨⟨todo',os,hItY,hosn,by omega,hO'.keep0 kY,hfr,kV'.then0 kY,by have:=kY.size; omega,hnd'.2,fun l=>?_,hsub',hMxo⟩,lft hItY⟩
     rw [hos]
     refine ⟨fun ⟨⟨a,b⟩,h⟩=>⟨⟨a,fun hh=>b ((hkp l).2 (Or.inr hh))⟩,h⟩,fun ⟨⟨a,b⟩,h⟩=>⟨⟨a,fun hh=>?_⟩,h⟩⟩
     rcases (hkp l).1 hh with rfl | hh
     ·rcases hno with e | e
      ·exact h.1 e
      ·exact e h.2
     ·exact b hh
    show gd (p0.1 != neg x.lit) _ _ _ _
    by_cases hpx:p0.1=neg x.lit
    ·have e0:(p0.1 != neg x.lit)=false:=by simp [hpx]
     refine gd_f e0 (pif_f (by show cond (p0.1 != neg x.lit) _ _=_; rw [e0]; rfl) ?_)
     exact skip (Keep.refl _ _) (Or.inl hpx)
    have e0:(p0.1 != neg x.lit)=true:=by simpa using hpx
    refine gd_t e0 (level47 hF hn (hSr.keep0 kV') hpf hpe fun V2 k2'=>⟨_,rfl,?_⟩)
    show pif (cond (p0.1 != neg x.lit) (decide (lvl es p0.1>0)) false) _ _
    rw [e0]
    by_cases hl0:0<lvl es p0.1
    case neg=>
     refine pif_f (by simpa using hl0) ?_
     exact skip k2' (Or.inr hl0)
    refine pif_t (by simpa using hl0) ?_
    refine alc_at fun b96 V3 hb96 hB96 k3'=>?_
    have hO3:=(hO'.keep0 k2').keep0 k3'
    refine app_of2 (e:=3) (sz:=1) (z:=I 0) (B:=8) Tryz.underlying49 (by kernel_rfl) rfl (by omega) hO3 hB96.news1 (fun u hu=>?_) (by simp only [maxLen]; omega) (by omega) fun p' c' V4 hO4 hd4=>?_
    ·simp only [List.mem_singleton] at hu; subst hu; rfl
    have sz2:=k2'.size
    have sz3:=k3'.size
    have hK4:Keep (fun j=>q79<j) V3 V4∧∀j,ob p' j→q79<j:=by
     rcases hd4 with ⟨x1,_,_,x2⟩ | ⟨x1,x2⟩
     ·exact ⟨x2.mono fun i _ hi=>hfr i hi,fun i hi=>by rw [x1] at hi; exact hfr i hi⟩
     ·exact ⟨x2.none,fun i hi=>by have:=x1 i hi; omega⟩
    have kV4:Keep None w5 V4:=((kV'.then0 k2').then0 k3').trans hK4.1 fun j hj h=>by have:q79<j:=h; omega
    have hIt4:It V4 q79 r f todo':=((hIt'.keep0 k2').keep0 k3').keep hK4.1 (fun h=>by have:q79<q79:=h; omega) fun h=>by have:q79<r:=h; omega
    refine level47 hF hn (hSr.keep0 kV4) hpf hpe fun V5 k5'=>⟨_,rfl,?_⟩
    have hItY:=hIt4.keep0 k5'
    have sz4:=hK4.1.size
    have sz5':=k5'.size
    refine ⟨⟨todo',os++[p0.1],hItY,by simp [hosn],by simp; omega,?_,hK4.2,kV4.then0 k5',by omega,hnd'.2,fun l=>?_,hsub',?_⟩,lft hItY⟩
    ·rw [List.map_append]; exact hO4.keep0 k5'
    ·rw [List.mem_append,List.mem_singleton,hos]
     constructor
     ·rintro (⟨⟨a,b⟩,h⟩ | rfl)
      ·exact ⟨⟨a,fun hh=>b ((hkp l).2 (Or.inr hh))⟩,h⟩
      ·exact ⟨⟨hp0S,hnd'.1⟩,hpx,hl0⟩
     ·rintro ⟨⟨a,b⟩,h⟩
      by_cases e:l=p0.1
      ·exact Or.inr e
      ·exact Or.inl ⟨⟨a,fun hh=>((hkp l).1 hh).elim e b⟩,h⟩
    ·exact hMxo.add (fun l=>by rw [List.mem_append,List.mem_singleton]) (by omega)
  ·-- a step back
   refine pif_f (by simp; omega) ?_
   have hAl:¬Alone es top S x:=fun h=>hc1 (h1.2 h)
   have hdk:(neg x.lit)∈keys f:=(hIn.mem _).2 hSx
   have hcd:cnt es top (mdel (neg x.lit) f)+(if lvl es (neg x.lit)=top then 1 else 0)=cnt es top f:=cnt_del hdk
   rw [if_pos hlx] at hcd
   have eC:IntKind.wrap .i64 (((cnt es top f:Nat):Int) - 1)=((cnt es top (mdel (neg x.lit) f):Nat):Int):=by
    have:cnt es top f≤f.length:=List.length_filter_le ..
    rw [IntKind.wrap_i64]; omega
   rw [eC]
   refine del_of u52 Tryz.underlying3 hMs fun X1 hMs1 k1' z1'=>?_
   have hwrX:∀{j:Nat},One r j→w5.heap.size≤j:=fun h=>by have:_=r:=h; omega
   have kX1:Keep None w5 X1:=kX.trans k1' fun j hj h=>by have:=hwrX h; omega
   have hSX1:=hSr.keep0 kX1
   refine ldC_of (hSX1.tr.cell 0) (hSX1.rd.ix hx fun a2 ⟨rq,rn,rc,_,_,d2,hrq⟩=>ldC_of d2 ?_)
   have hrl:=hrq.len
   have hrn:=hr x hxm
   refine lp_of (fun s Y=>∃(j:Nat) (g:List (Int×Int)),s.2.1=(j:Int)∧j≤rn∧s.1=(cnt es top g:Nat)∧In g (fun l=>(S l∧l≠neg x.lit)∨(l∈x.rs.take j∧l≠x.lit))∧1≤cnt es top g∧Ms Y r g∧Keep None w5 Y∧Keep (One r) X1 Y) (fun s _=>(rn - s.2.1).toNat)
    ⟨0,_,rfl,Nat.zero_le _,rfl,(hIn.del (neg x.lit)).iff fun l=>by simp,by omega,hMs1,kX1,Keep.refl _ _⟩ ?_
   rintro ⟨v112,j',⟨⟩⟩ Y ⟨j,g,rfl,hj,rfl,hIng,hcg,hMg,kY,kXY⟩
   simp only []
   have hSnx:∀{k:Nat} (l:Int),(S l∧l≠neg x.lit)∨(l∈x.rs.take k∧l≠x.lit)→fl l=true∧∃y∈es,y.lit=neg l:=fun l h=>by
    rcases h with h | h
    ·exact hS l h.1
    ·exact rs_ok hF x hxm l ((List.take_sublist _ _).subset h.1) h.2
   have glen:=hIng.len fun l hl=>(hSnx l hl).1
   have gcl:cnt es top g≤g.length:=List.length_filter_le ..
   refine pif_of (fun hlt=>?_) fun hge=>?_
   ·have hlt:j<rn:=by simpa using hlt
    refine jn_of ?_
    rw [wrap_nat j (by omega)]
    have hSY:=hSr.keep0 kY
    have hrqY:RdL Y rq rn x.rs:=rdl_keepM hrq hMs1.mp kXY
    refine hrqY.ix hlt fun a3 l hl ha=>ldI_of ha (ldC_of (hSY.tr.cell 0) (hSY.rd.ix hx fun a4 ⟨_,_,_,c4,_⟩=>ldI_of c4 ?_))
    have hlm:=List.mem_of_getElem? hl
    have tk:∀l',l'∈x.rs.take (j+1)↔l'∈x.rs.take j∨l'=l:=fun l'=>by rw [take_snoc hl,List.mem_append,List.mem_singleton]
    by_cases hlx:l=x.lit
    ·have e0:(l != x.lit)=false:=by simp [hlx]
     refine gd_f e0 (pif_f (by rw [e0]; rfl) ⟨⟨j+1,g,rfl,hlt,rfl,hIng.iff fun l'=>?_,hcg,hMg,kY,kXY⟩,by omega⟩)
     rw [tk]
     exact ⟨fun h=>h.imp id fun ⟨a,b⟩=>⟨a.elim id fun e=>absurd (e.trans hlx) b,b⟩,fun h=>h.imp id fun ⟨a,b⟩=>⟨Or.inl a,b⟩⟩
    have e0:(l != x.lit)=true:=by simpa using hlx
    refine gd_t e0 (lk_of u52 Tryz.underlying3 z3 hMg.mp ?_)
    show pif (cond (l != x.lit) (mget l g==0) false) _ _
    rw [e0]
    rcases hIng.get l with ⟨hin,e2⟩ | ⟨hin,e2⟩
    ·rw [e2]
     refine pif_f rfl ⟨⟨j+1,g,rfl,hlt,rfl,hIng.iff fun l'=>?_,hcg,hMg,kY,kXY⟩,by omega⟩
     rw [tk]
     refine ⟨fun h=>?_,fun h=>h.imp id fun ⟨a,b⟩=>⟨Or.inl a,b⟩⟩
     rcases h with h | ⟨a | rfl,b⟩
     ·exact Or.inl h
     ·exact Or.inr ⟨a,b⟩
     ·exact hin
    ·rw [e2]
     refine pif_t rfl (upS_of u52 Tryz.underlying3 hMg fun Y1 hMg1 k1'' z1''=>?_)
     have kY1:Keep None w5 Y1:=kY.trans k1'' fun j hj h=>by have:=hwrX h; omega
     obtain ⟨hlf,hle⟩:=rs_ok hF x hxm l hlm hlx
     refine level47 hF hn (hSr.keep0 kY1) hlf hle fun Y2 k2''=>⟨_,rfl,?_⟩
     have hcp:=cnt_put (es:=es) (top:=top) hIng hin
     have nx:In (mput l 1 g) (fun l'=>(S l'∧l'≠neg x.lit)∨(l'∈x.rs.take (j+1)∧l'≠x.lit)):=(hIng.put l).iff fun l'=>by
      rw [tk]
      constructor
      ·rintro (h | ⟨a | rfl,b⟩)
       ·exact Or.inl (Or.inl h)
       ·exact Or.inl (Or.inr ⟨a,b⟩)
       ·exact Or.inr rfl
      ·rintro ((h | h) | rfl)
       ·exact Or.inl h
       ·exact Or.inr ⟨Or.inl h.1,h.2⟩
       ·exact Or.inr ⟨Or.inr rfl,hlx⟩
     have kXY2:Keep (One r) X1 Y2:=(kXY.trans k1'' fun _ _ h=>h).then0 k2''
     refine pif_of (fun ht=>?_) fun ht=>?_
     ·have ht:lvl es l=top:=by simpa using ht
      rw [if_pos ht] at hcp
      have eK:IntKind.wrap .i64 (((cnt es top g:Nat):Int)+1)=((cnt es top (mput l 1 g):Nat):Int):=by rw [IntKind.wrap_i64]; omega
      rw [eK]
      exact ⟨⟨j+1,_,rfl,hlt,rfl,nx,by omega,hMg1.keep0 k2'',kY1.then0 k2'',kXY2⟩,by omega⟩
     ·have ht:¬lvl es l=top:=by simpa using ht
      rw [if_neg ht] at hcp
      have eK:((cnt es top g:Nat):Int)=((cnt es top (mput l 1 g):Nat):Int):=by omega
      rw [eK]
      exact ⟨⟨j+1,_,rfl,hlt,rfl,nx,by omega,hMg1.keep0 k2'',kY1.then0 k2'',kXY2⟩,by omega⟩
   ·have hge:j=rn:=by simp at hge; omega
    subst hge
    rw [eI]
    rw [←hrl,List.take_length] at hIng
    refine ⟨⟨g,nxt S x,rfl,by omega,by omega,hIng,fun l hl=>?_,fun l hl=>?_,hcg,fun j y hj' hy hyt hny=>?_,fun o F h=>hLr o F (Lrn.step hGt hAl h),hMg,kY⟩,by omega⟩
    ·rcases hl with h | h
     ·exact hS l h.1
     ·exact rs_ok hF x hxm l h.1 h.2
    ·rcases hl with h | h
     ·exact hSl l h.1
     ·obtain ⟨k,y,hk,hy,hyl⟩:=rs_ahead hF hx h.1 h.2
      rw [lvl_of hF hy hyl,←hlev]
      exact (hrun i x hx).2.2 k y (by omega) hy
    ·rcases hny with ⟨h,hne⟩ | ⟨h,hne⟩
     ·by_cases hji:(i:Int)<j
      ·exact hbeh j y hji hy hyt h
      ·obtain rfl:j=i:=by omega
       rw [hx] at hy; injection hy with hy; subst hy
       exact hne rfl
     ·obtain ⟨k,z,hk,hz,hzl⟩:=rs_ahead hF hx h hne
      rw [neg_neg (hF j y hy).1] at hzl
      have:=lit_one hF hz hy hzl
      omega
 ·-- one more entry
  refine pif_t rfl ⟨_,_,_,hent,?_⟩
  have hp0S:p0.1∈cs:=(hIn.mem _).1 (List.mem_map.2 ⟨p0,hsub p0 hp0,rfl⟩)
  obtain ⟨hpf,hpe⟩:=hok _ hp0S
  have kV':Keep None w5 V':=kV.trans kq fun j hj h=>by have:j=q37:=h; omega
  refine level47 hF hn (hSr.keep0 kV') hpf hpe fun V2 k2'=>⟨_,rfl,?_⟩
  have hItY:=hIt'.keep0 k2'
  have hsub':∀p∈todo',p∈f:=fun p hp=>hsub p (hperm.mem_iff.2 (by simp [hp]))
  have hcc:=(cnt_perm (es:=es) (top:=top) hperm).trans (cnt_cons p0 todo')
  have hll:leftM V2 r q37<leftM V r q37:=by
   rw [hItY.left,hItV.left]
   have:=hperm.length_eq
   simp at this
   omega
  have sz2:=k2'.size
  refine pif_of (fun ht=>?_) fun ht=>?_
  ·have ht:lvl es p0.1=top:=by simpa using ht
   rw [if_pos ht] at hcc
   rw [wrap_nat k (by omega)]
   exact ⟨⟨k+1,todo',rfl,hItY,by omega,hsub',kV'.then0 k2',by omega⟩,hll⟩
  ·have ht:¬lvl es p0.1=top:=by simpa using ht
   rw [if_neg ht] at hcc
   exact ⟨⟨k,todo',rfl,hItY,by omega,hsub',kV'.then0 k2',by omega⟩,hll⟩
end
end Go.Proofs.YtmhjehodfggleaaGreat.Learn

/- An Engine in memory: slices cloned; the trail as entries. -/

set_option linter.unusedVariables false
set_option linter.unusedSimpArgs false
set_option linter.unusedSectionVars false
set_option maxRecDepth 100000
namespace Go.Proofs.YtmhjehodfggleaaGreat.Eng
open Go Go.Proofs.YtmhjehodfggleaaGreat.Vc Go.Proofs.YtmhjehodfggleaaGreat.T
open Go.Proofs.YtmhjehodfggleaaGreat.Apart (RdL own_rdl wrap_nat getE own_len take_snoc Sl sv New)
open Go.Proofs.YtmhjehodfggleaaGreat.Lits (fl fl_iff Ans ans_of formedP idx idx_range idx_inj indexP)
open Go.Proofs.YtmhjehodfggleaaGreat.Arn (Ar AR words off cw Got)
open Go.Proofs.YtmhjehodfggleaaGreat.Trail (TI Tr St valA levA reaA ownB Moved TLaid above upto freeA implA Open ent)
open Go.Proofs.YtmhjehodfggleaaGreat.Learn (En RdE)
theorem rdl_news {w:World} {a:Addr} {n c:Nat} {cs:List Int} (h:RdL w (some a) n cs):News w 1 (some a) n c (cs.map I):=
 Or.inr ⟨a,rfl,by rw [List.length_map,h.len,Nat.mul_one],fun j u hu=>by
  rw [List.getElem?_map] at hu
  cases hx:cs[j]? with
  | none=>rw [hx] at hu; cases hu
  | some x=>
   rw [hx] at hu; injection hu with hu; subst hu
   obtain ⟨a',ha,hc⟩:=h.cell j x hx
   injection ha with ha; subst ha; exact hc⟩
theorem rdl_none {w:World} {n:Nat} {cs:List Int} (h:RdL w none n cs):cs=[]∧n=0:=by
 have:=h.len
 cases cs with
 | nil=>exact ⟨rfl,by simpa using this.symm⟩
 | cons x xs=>obtain ⟨a,ha,_⟩:=h.cell 0 x rfl; cases ha
theorem clone40 {w:World} {p:Option Addr} {n c:Nat} {cs:List Int} (hR:RdL w p n cs) (hn:n≤8796093022208) :
  Calls Tryz.prog 56 #[.slice p n c] w fun e w'=>∃v,e=.returned v∧New w cs v w':=by
 refine V56_calls p n c w (New w cs) ?_
 unfold V56
 cases p with
 | none=>
  obtain ⟨rfl,rfl⟩:=rdl_none hR
  exact pif_t rfl ⟨none,0,rfl,Own.nil _ _ _,(fun i ⟨a,hh,_⟩=>by cases hh),Keep.refl _ _⟩
 | some a=>
  have hl:=hR.len
  refine pif_f rfl (alc_at fun b w1 hb hB k1=>?_)
  have z1:=k1.size
  have hE:Own w1 3 1 (some ⟨b,0,none⟩) 0 0 []:=Or.inr ⟨b,[],rfl,hB,Nat.le_refl _,Nat.zero_le _,rfl,rfl⟩
  refine app_of2 (e:=3) (sz:=1) (z:=I 0) (B:=8) Tryz.underlying49 (by kernel_rfl) rfl (by omega) hE (rdl_news (c:=c) (hR.keep k1 fun _ _ h=>h)) (fun u hu=>?_) (by simp only [maxLen]; omega) (by omega) fun p' c' w' hO' hd=>?_
  ·obtain ⟨y,_,rfl⟩:=List.mem_map.1 hu; rfl
  ·rw [List.nil_append,Nat.zero_add] at hO'
   rw [Nat.zero_add]
   refine ⟨p',c',by rw [hl],by rw [hl]; exact hO',?_,?_⟩
   ·rcases hd with ⟨e1,_,_,_⟩ | ⟨e1,_⟩
    ·rintro i ⟨a,ha,rfl⟩; rw [e1] at ha; cases ha; show _≤b; omega
    ·intro i hi; have:=e1 i hi; omega
   ·rcases hd with ⟨_,_,_,k⟩ | ⟨_,k⟩
    ·exact k1.trans k fun i hi ⟨a,ha,hb'⟩=>by cases ha; have hb2:b=i:=hb'; omega
    ·exact k1.then0 k
def arFind:List (List Int)→Int→List Int
 | [],_=>[]
 | c :: cs,r=>if r=0 then c else arFind cs (r - (c.length+1))
theorem off_cons (c:List Int) (cs:List (List Int)) (k:Nat):off (c :: cs) (k+1)=c.length+1+off cs k:=by
 unfold off words
 rw [List.take_succ_cons,List.flatMap_cons,List.length_append]
 simp [cw]
theorem arFind_off:∀(cs:List (List Int)) (k:Nat) (c:List Int),cs[k]?=some c→arFind cs (off cs k)=c
 | [],k,c,h=>by simp at h
 | c0 :: cs,0,c,h=>by
  have:c0=c:=by simpa using h
  subst this
  unfold arFind
  rw [if_pos (by simp [off,words])]
 | c0 :: cs,k+1,c,h=>by
  unfold arFind
  rw [off_cons,if_neg (by omega)]
  have:(((c0.length+1+off cs k:Nat):Int) - ((c0.length:Int)+1))=(off cs k:Nat):=by omega
  rw [this]
  exact arFind_off cs k c (by simpa using h)
def arGet (A:Ar) (r:Int):List Int:=if r∈A.live then arFind A.cs r else []
theorem got_get {w w':World} {A:Ar} {r:Int} {v:Value} (h:Got w A r v w'):∃p c ok,v=.tuple #[.slice p (arGet A r).length c,.bool ok]∧Own w' 3 1 p (arGet A r).length c ((arGet A r).map I)∧(∀i,ob p i→w.heap.size≤i)∧Keep None w w':=by
 rcases h with ⟨h1,rfl,hk⟩ | ⟨k,c,p,cc,h1,h2,h3,rfl,hO,hp,hk⟩
 ·have:arGet A r=[]:=by unfold arGet; rw [if_neg h1]
  rw [this]
  exact ⟨none,0,false,rfl,Own.nil _ _ _,(fun i ⟨a,hh,_⟩=>by cases hh),hk⟩
 ·have:arGet A r=c:=by unfold arGet; rw [if_pos h1,h2]; exact arFind_off _ _ _ h3
  rw [this]
  exact ⟨p,cc,true,rfl,hO,hp,hk⟩
def entE (S:ES) (e:E):En:=⟨e.lit,e.lv,if 0≤e.rs then arGet S.ar e.rs else []⟩
def entS (S:ES):List En:=S.R.map (entE S)
theorem ent_mem {n:Nat} {R:List E} {L:List Int} (h:St n R L) {e:E} (he:e∈R):ent R e.lit.natAbs=some e:=by
 unfold ent
 cases hf:R.find? (fun x=>x.lit.natAbs==e.lit.natAbs) with
 | none=>rw [List.find?_eq_none] at hf; exact absurd (by simp) (hf e he)
 | some x=>
  have h1:=List.mem_of_find?_eq_some hf
  have h2:=List.find?_some hf
  simp only [beq_iff_eq] at h2
  have hn:=h.nodup
  obtain ⟨i,hi,rfl⟩:=List.getElem_of_mem he
  obtain ⟨j,hj,rfl⟩:=List.getElem_of_mem h1
  rw [List.nodup_iff_pairwise_ne,List.pairwise_iff_getElem] at hn
  rcases Nat.lt_trichotomy i j with hij | rfl | hij
  ·have:=hn i j (by simpa using hi) (by simpa using hj) hij
   simp only [List.getElem_map] at this
   exact absurd h2.symm this
  ·rfl
  ·have:=hn j i (by simpa using hj) (by simpa using hi) hij
   simp only [List.getElem_map] at this
   exact absurd h2 this
theorem lev_ent {n:Nat} {R:List E} {L:List Int} (h:St n R L) {e:E} (he:e∈R):levA n R (e.lit.natAbs:Int)=e.lv∧reaA n R (e.lit.natAbs:Int)=e.rs:=by
 have ho:=own_wi (h.own e he)
 have hob:ownB n (e.lit.natAbs:Int)=true:=wi_own ⟨by have:=ho.1; omega,by omega,by have:=ho.2.1; have:=ho.2.2; omega⟩
 have h1:(decide (1≤(e.lit.natAbs:Int))&&ownB n (e.lit.natAbs:Int))=true:=by
  rw [hob,decide_eq_true (by have:=ho.1; omega)]; rfl
 unfold levA reaA
 rw [if_pos h1,Int.natAbs_natCast,ent_mem h he]
 exact ⟨rfl,by rw [if_pos h1]⟩
section
variable {ex:Nat→Prop} {w:World} {b:Nat} {o:Nat→Int} {h:Hs} {S:ES}
theorem entry68 (hR:Rp ex w b o h S) {e:E} (he:e∈S.R) (hw:(words S.ar.cs).length≤17592186044416) :
  Calls Tryz.prog 95 #[Pt b,I e.lit,.func (.func 53) #[Pt h.st] #[]] w fun ee w'=>∃p n c,ee=.returned (.agg #[I e.lit,I e.lv,.slice p n c])∧RdL w' p n (entE S e).rs∧(∀i,ob p i→w.heap.size≤i∧i<w'.heap.size)∧Keep None w w':=by
 refine (V95_calls (some ⟨b,0,none⟩) e.lit (.func (.func 53) #[Pt h.st] #[]) w (fun v w'=>∃p n c,v=.agg #[I e.lit,I e.lv,.slice p n c]∧RdL w' p n (entE S e).rs∧(∀i,ob p i→w.heap.size≤i∧i<w'.heap.size)∧Keep None w w') ?_).mono fun ee w' ⟨v,hee,p,n,c,hv,hk⟩=>⟨p,n,c,by rw [hee,hv],hk⟩
 unfold V95
 have hnv:=hR.nv
 have hst:=hR.tr.st
 have hwi:=own_wi (hst.own e he)
 obtain ⟨el,er⟩:=lev_ent hst he
 refine alc_at fun b2 w1 hb2 hB2 k1=>?_
 have z1:=k1.size
 refine cl_of ok103 (Trail.var52 e.lit w1 (by have:=hwi.2.1; omega)) fun ee w2 ⟨hee,hw2⟩=>⟨_,hee,?_⟩
 subst hw2
 have ev:(if 1≤e.lit.natAbs∧e.lit.natAbs≤1048576 then (e.lit.natAbs:Int) else 0)=e.lit.natAbs:=if_pos ⟨by have:=hwi.1; omega,by have:=hwi.2.1; have:=hwi.2.2; omega⟩
 rw [ev]
 have hR2:=hR.keep0 k1
 refine hR2.trAt (cl_of ok102 (hR2.tr.levelOf _ (by omega)) fun ee w3 ⟨hee,k3⟩=>⟨_,hee,?_⟩)
 rw [el]
 have hB2':=hB2.keep0 k3
 have k13:=k1.then0 k3
 have z3:=k3.size
 refine alc_at fun b11 w4 hb11 hB11 k4=>?_
 have k14:=k13.then0 k4
 have hbb:b2<w3.heap.size:=hB2'.lt
 have hB2'':=hB2'.keep0 k4
 have z4:=k4.size
 have big:∀{W W':World},Keep None w W→Keep (One b11) W W'→Keep None w W':=fun hk hk'=>hk.trans hk' fun i hi hh=>by have:i=b11:=hh; omega
 rw [add_mk,add_mk,add_mk]
 refine st_of hB11 (by simp) rfl fun w5 hB5 k5 z5=>?_
 refine st_of hB5 (by simp) rfl fun w6 hB6 k6 z6=>?_
 refine st_of hB6 (by simp) rfl fun w7 hB7 k7 z7=>?_
 have k47:Keep (One b11) w4 w7:=(k5.trans k6 fun _ _ h=>h).trans k7 fun _ _ h=>h
 have k17:=big k14 k47
 have hR7:=hR.keep0 k17
 have hB27:Blk w7 b2 _ 164:=hB2''.keep k47 fun hh=>by have:b2=b11:=hh; omega
 refine ⟨fun _ W=>∃p n c,Blk W b11 [I e.lit,I e.lv,.slice p n c] 164∧Blk W b2 [I 0,I 0,.slice none 0 0] 164∧RdL W p n (entE S e).rs∧(∀i,ob p i→w.heap.size≤i∧i≠b2∧i≠b11∧i<W.heap.size)∧Keep None w W,?_,?_⟩
 ·refine hR7.trAt (cl_of ok135 (hR7.tr.reason _ (by omega)) fun ee w9 ⟨hee,k9⟩=>⟨_,hee,?_⟩)
  rw [er]
  have k19:=k17.then0 k9
  by_cases hr:0≤e.rs
  ·have ee1:(entE S e).rs=arGet S.ar e.rs:=by unfold entE; rw [if_pos hr]
   rw [ee1]
   refine pif_t (decide_eq_true hr) (Learn.clF_of ?_)
   have hR9:=hR.keep0 k19
   refine cl_of ok53 (Arn.get42 hR9.ar hw e.rs) fun ee w10 ⟨v,hee,hgot⟩=>?_
   obtain ⟨p,c,ok,rfl,hO,hp,k10⟩:=got_get hgot
   refine ⟨p,_,c,ok,hee,?_⟩
   rw [add_mk]
   have hB11x:=(hB7.keep0 k9).keep0 k10
   refine st_of hB11x (by simp) rfl fun w11 hB11' k11 z11=>?_
   have z7':=k47.size
   have z9:=k9.size
   have pne:∀i,ob p i→w.heap.size≤i∧i≠b2∧i≠b11∧i<w11.heap.size:=fun i hi=>by
    have h1:=hp i hi
    have h2:=k19.size
    have h3:=hB7.lt
    have h4:=hO.lt i hi
    exact ⟨by omega,by omega,by omega,by omega⟩
   refine ⟨p,_,c,hB11',((hB27.keep0 k9).keep0 k10).keep k11 fun hh=>by have:b2=b11:=hh; omega,?_,pne,big (k19.then0 k10) k11⟩
   have:=own_rdl hO
   exact this.keep k11 fun i hi hh=>(pne i hi).2.2.1 hh
  ·have ee1:(entE S e).rs=[]:=by unfold entE; rw [if_neg hr]
   rw [ee1]
   exact pif_f (decide_eq_false hr) ⟨none,0,0,hB7.keep0 k9,hB27.keep0 k9,⟨rfl,fun i x hx=>by simp at hx⟩,(fun i ⟨a,hh,_⟩=>by cases hh),k19⟩
 rintro ⟨⟩ w8 ⟨p,n,c,hB11',hB2x,hRd,hp,k8⟩
 dsimp only
 refine ldI_of (hB11'.cell 0) (ldI_of (hB11'.cell 1) (ldC_of (hB11'.cell 2) ?_))
 refine st_of hB2x (by simp) rfl fun w12 hB12 k12 z12=>?_
 refine st_of hB12 (by simp) rfl fun w13 hB13 k13' z13=>?_
 refine st_of hB13 (by simp) rfl fun w14 hB14 k14' z14=>?_
 refine ldI_of (hB14.cell 0) (ldI_of (hB14.cell 1) (ldC_of (hB14.cell 2) ?_))
 have kk:Keep (One b2) w8 w14:=(k12.trans k13' fun _ _ h=>h).trans k14' fun _ _ h=>h
 refine ⟨p,n,c,rfl,hRd.keep kk fun i hi hh=>(hp i hi).2.1 hh,fun i hi=>⟨(hp i hi).1,by have:=(hp i hi).2.2.2; have:=kk.size; omega⟩,k8.trans kk fun i hi hh=>by have:i=b2:=hh; omega⟩
end
def entC (x:En×Sl):List Value:=[I x.1.lit,I x.1.lev,sv x.2]
theorem rdE_of {w:World} {p:Option Addr} {n c:Nat} {xs:List (En×Sl)} (hO:Own w 164 3 p n c (xs.flatMap entC)) (hr:∀x∈xs,RdL w x.2.1 x.2.2.1 x.1.rs):RdE w p n (xs.map fun x=>x.1):=by
 have hl:=hO.len
 have hfl:∀(xs:List (En×Sl)),(xs.flatMap entC).length=xs.length*3:=fun xs=>by
  induction xs with
  | nil=>rfl
  | cons x xs ih=>rw [List.flatMap_cons,List.length_append,ih,List.length_cons]; simp [entC]; omega
 rw [hfl] at hl
 refine ⟨by rw [List.length_map]; omega,fun i y hy=>?_⟩
 rw [List.getElem?_map] at hy
 cases hx:xs[i]? with
 | none=>rw [hx] at hy; cases hy
 | some x=>
  rw [hx] at hy; injection hy with hy; subst hy
  have hi:=(List.getElem?_eq_some_iff.1 hx).1
  have hat:∀(xs:List (En×Sl)) (i:Nat) (x:En×Sl) (k:Nat),xs[i]?=some x→k<3→(xs.flatMap entC)[i*3+k]?=(entC x)[k]?:=fun xs=>by
   induction xs with
   | nil=>intro i x k h; simp at h
   | cons y ys ih=>
    intro i x k h hk
    rw [List.flatMap_cons]
    cases i with
    | zero=>
     have:y=x:=by simpa using h
     subst this
     rw [Nat.zero_mul,Nat.zero_add,List.getElem?_append_left (by simp [entC]; omega)]
    | succ i=>
     have h':ys[i]?=some x:=by simpa using h
     have e3:(entC y).length=3:=rfl
     rw [List.getElem?_append_right (by rw [e3]; omega),e3,←ih i x k h' hk]
     congr 1; omega
  have h3:=hr x (List.mem_of_getElem? hx)
  rcases hO with ⟨_,hn,_,_⟩ | ⟨bb,cs,hpb,hB,h1,h2,h4,h5⟩
  ·omega
  ·have hO:Own w 164 3 (some ⟨bb,0,none⟩) n c (xs.flatMap entC):=Or.inr ⟨bb,cs,rfl,hB,h1,h2,h4,h5⟩
   have cell:∀k v,k<3→(entC x)[k]?=some v→w.cell? (((⟨bb,0,none⟩:Addr).add (i*3)).add k)=some v:=fun k v hk hv=>by
    rw [add_mk,add_mk,Nat.zero_add,hO.cell _ (by omega),hat xs i x k hx hk,hv]
   exact ⟨⟨bb,0,none⟩,x.2.1,x.2.2.1,x.2.2.2,hpb,cell 0 _ (by omega) rfl,cell 1 _ (by omega) rfl,cell 2 _ (by omega) rfl,h3⟩
theorem entries41 {ex : Nat → Prop} {w : World} {b : Nat} {o : Nat → Int} {h : Hs} {S : ES} (hR : Rp ex w b o h S) (hw : (words S.ar.cs).length ≤ 17592186044416) :
    Calls Tryz.prog 52 #[Pt b] w fun e w' => ∃ p c, e = .returned (.slice p (entS S).length c) ∧ RdE w' p (entS S).length (entS S) ∧ (∀ i, ob p i → w.heap.size ≤ i) ∧ Keep None w w' := by
  refine (V52_calls (some ⟨b, 0, none⟩) w (fun v w' => ∃ p c, v = .slice p (entS S).length c ∧ RdE w' p (entS S).length (entS S) ∧ (∀ i, ob p i → w.heap.size ≤ i) ∧ Keep None w w') ?_).mono fun e w' ⟨v, he, p, c, hv, hk⟩ => ⟨p, c, by rw [he, hv], hk⟩
  unfold V52
  have hool := own_len hR.oo
  rw [List.length_map] at hool
  have hsm := hR.tr.small
  refine nn_of (ldC_of (x := h.oo.1) (n := h.oo.2.1) (c := h.oo.2.2) (by rw [add_mk]; exact hR.self.cell 3) ?_)
  refine lp_of (fun s W => ∃ (i : Nat) (xs : List (En × Sl)), s.2.1 = (i : Int) ∧ i ≤ S.R.length ∧ (xs.map fun x => x.1) = (S.R.take i).map (entE S) ∧ Own W 164 3 s.1.1 s.1.2.1 s.1.2.2 (xs.flatMap entC) ∧ (∀ j, ob s.1.1 j → w.heap.size ≤ j) ∧ (∀ x ∈ xs, RdL W x.2.1 x.2.2.1 x.1.rs ∧ ∀ j, ob x.2.1 j → w.heap.size ≤ j ∧ j < W.heap.size ∧ ¬ ob s.1.1 j) ∧ Keep None w W) (fun s _ => (S.R.length - s.2.1).toNat)
    ⟨0, [], rfl, Nat.zero_le _, rfl, Own.nil _ _ _, (fun j ⟨a, hh, _⟩ => by cases hh), (fun x hx => by cases hx), Keep.refl _ _⟩ ?_
  rintro ⟨⟨sp, sn, sc⟩, i', ⟨⟩⟩ W ⟨i, xs, rfl, hi, hxs, hO, hnew, hrs, kW⟩
  dsimp only at hO hnew hrs ⊢
  have hfl : ∀ (xs : List (En × Sl)), (xs.flatMap entC).length = xs.length * 3 := fun xs => by
    induction xs with
    | nil => rfl
    | cons x xs ih => rw [List.flatMap_cons, List.length_append, ih, List.length_cons]; simp [entC]; omega
  have hxl : xs.length = i := by
    have := congrArg List.length hxs
    simp only [List.length_map, List.length_take] at this; omega
  have hsn : sn = i := by have := hO.len; rw [hfl] at this; omega
  refine pif_of (fun hlt => ?_) fun hge => ?_
  · have hlt : i < S.R.length := by have : (i : Int) < (h.oo.2.1 : Int) := by simpa using hlt
                                    omega
    rw [wrap_nat i (by omega)]
    obtain ⟨e, he⟩ := getE hlt
    have hRW := hR.keep0 kW
    have hoo := hRW.oo
    refine hRW.oo.ix (by omega) (by omega) fun bq hbq => ?_
    rw [hbq] at hoo
    refine ldI_of (x := e.lit) (by rw [hoo.cell _ (by omega), Int.toNat_natCast, Nat.mul_one, List.getElem?_map, List.getElem?_map, he]; rfl) (nn_of (ldP_of (x := some ⟨h.st, 0, none⟩) (by rw [add_mk]; exact hRW.self.cell 1) ?_))
    refine cl_of ok95 (entry68 hRW (List.mem_of_getElem? he) hw) fun ee w2 ⟨p, n, c, hee, hRd, hp, k2⟩ => ⟨_, _, p, n, c, hee, ?_⟩
    refine alc_at fun b21 w3 hb21 hB21 k3 => ?_
    have k23 := k2.then0 k3
    have z2 := k2.size
    have z3 := k3.size
    have zW := kW.size
    have hN : News w3 3 (some ⟨b21, 0, none⟩) 1 1 (entC (entE S e, (p, n, c))) := Or.inr ⟨_, rfl, rfl, fun j u hu => by
      rw [add_mk, Nat.zero_add, hB21.cell]; exact hu⟩
    refine app_of2 (e := 164) (sz := 3) (z := .agg #[I 0, I 0, .slice none 0 0]) (B := 40) Tryz.underlying79 (by kernel_rfl) rfl (by omega) (hO.keep0 k23) hN (fun u hu => ?_) (by simp only [maxLen]; omega) (by omega) fun p' c' w4 hO4 hd4 => ?_
    · simp only [entC, List.mem_cons, List.mem_singleton, List.not_mem_nil, or_false] at hu
      rcases hu with rfl | rfl | rfl <;> rfl
    have kk : Keep (ob sp) w3 w4 := by
      rcases hd4 with ⟨_, _, _, kk⟩ | ⟨_, kk⟩
      · exact kk
      · exact kk.none
    have hp' : ∀ j, ob p' j → ob sp j ∨ w3.heap.size ≤ j := fun j hj => by
      rcases hd4 with ⟨e, _, _, _⟩ | ⟨e, _⟩
      · rw [e] at hj; exact Or.inl hj
      · exact Or.inr (e j hj)
    have zk := kk.size
    refine ⟨⟨i + 1, xs ++ [(entE S e, (p, n, c))], rfl, hlt, ?_, ?_, ?_, ?_, ?_⟩, by omega⟩
    · rw [List.map_append, hxs, take_snocN he, List.map_append]; rfl
    · rw [List.flatMap_append, List.flatMap_singleton]; exact hO4
    · intro j hj
      rcases hp' j hj with h1 | h1
      · exact hnew j h1
      · omega
    · intro x hx
      rcases List.mem_append.1 hx with hx | hx
      · obtain ⟨g1, g2⟩ := hrs x hx
        refine ⟨(g1.keep k23 fun _ _ h => h).keep kk fun j hj => (g2 j hj).2.2, fun j hj => ⟨(g2 j hj).1, by have := (g2 j hj).2.1; omega, fun hh => ?_⟩⟩
        rcases hp' j hh with h1 | h1
        · exact (g2 j hj).2.2 h1
        · have := (g2 j hj).2.1; omega
      · simp only [List.mem_singleton] at hx
        subst hx
        have hlt2 : ∀ j, ob p j → W.heap.size ≤ j ∧ j < w2.heap.size ∧ ¬ ob sp j := fun j hj => ⟨(hp j hj).1, (hp j hj).2, fun hh => ?_⟩
        · refine ⟨(hRd.keep k3 fun _ _ h => h).keep kk fun j hj => (hlt2 j hj).2.2, fun j hj => ⟨by have := (hlt2 j hj).1; omega, by have := (hlt2 j hj).2.1; omega, fun hh => ?_⟩⟩
          rcases hp' j hh with h1 | h1
          · exact (hlt2 j hj).2.2 h1
          · have := (hlt2 j hj).2.1; omega
        · have := hO.lt j hh; have := (hp j hj).1; omega
    · exact (kW.then0 k23).trans kk fun j hj hh => by have := hnew j hh; omega
  · have hge : i = S.R.length := by have : ¬ (i : Int) < (h.oo.2.1 : Int) := by simpa using hge
                                    omega
    subst hge
    rw [List.take_length] at hxs
    have e1 : (xs.map fun x => x.1) = entS S := hxs
    have := rdE_of hO fun x hx => (hrs x hx).1
    rw [e1, hsn] at this
    have el : (entS S).length = S.R.length := by unfold entS; rw [List.length_map]
    exact ⟨sp, sc, by rw [hsn, el], by rw [el]; exact this, hnew, kW⟩
end Go.Proofs.YtmhjehodfggleaaGreat.Eng

/- Rows of any size: each slice and text that is met weighs at most what a process can address; the row's form with that told. -/

set_option linter.unusedVariables false
set_option linter.unusedSimpArgs false
namespace Go.Proofs.YtmhjehodfggleaaGreat.Vc
open Go Go.ChangeShapes Go.WideShapes Go.ChangeAt Go.RowKit
def Wk (P:Program) (w:World):Nat→TypeId→List Value→Prop
 | 0,_,_=>True
 | m+1,t,cs=>match P.underlying t with
  | some .string=>∀s,cs=[.string s]→s.size≤reachBytes
  | some (.slice e)=>∀p n c,cs=[.slice p n c]→c*P.bytesOf e≤reachBytes∧∀a,p=some a→∀i,i<n→∀cs',w.cells? 0 (a.add (i*P.cellsOf e)) (P.cellsOf e)=some cs'→Wk P w m e cs'
  | some (.struct fs)=>∀(i:Nat) (f:Field),fs[i]?=some f→Wk P w m f.type ((cs.drop f.offset).take (P.cellsOf f.type))
  | _=>True
section
variable {H:Type} {enc:TypeId×Value→H} {P:Program} {w:World}
theorem weights_all {e:TypeId} : ∀{l:List (DataW H)} {d:DataW H},d∈l→(DataW.weightsAll P e l).all (·≤reachBytes)=true→(d.weights P e).all (·≤reachBytes)=true:=by
 intro l
 induction l with
 | nil=>intro d h; cases h
 | cons x l ih=>
  intro d h hw
  unfold DataW.weightsAll at hw
  rw [List.all_append,Bool.and_eq_true] at hw
  rcases List.mem_cons.1 h with rfl | h
  ·exact hw.1
  ·exact ih h hw.2
theorem weights_each:∀{ts:List TypeId} {l:List (DataW H)} {i:Nat} {t:TypeId} {d:DataW H},ts[i]?=some t→l[i]?=some d→(DataW.weightsEach P ts l).all (·≤reachBytes)=true→(d.weights P t).all (·≤reachBytes)=true:=by
 intro ts
 induction ts with
 | nil=>intro l i t d h; simp at h
 | cons t0 ts ih=>
  intro l i t d h1 h2 hw
  cases l with
  | nil=>simp at h2
  | cons d0 l=>
   unfold DataW.weightsEach at hw
   rw [List.all_append,Bool.and_eq_true] at hw
   cases i with
   | zero=>
    simp only [List.getElem?_cons_zero,Option.some.injEq] at h1 h2
    subst h1; subst h2; exact hw.1
   | succ i=>
    simp only [List.getElem?_cons_succ] at h1 h2
    exact ih h1 h2 hw.2
theorem wk_trod:∀(fuel:Nat) (t:TypeId) (cs:List Value) (x:DataW H×List MemPlace),DataW.trod enc P w 0 (fun _=>true) true fuel t cs=some x→(x.1.weights P t).all (·≤reachBytes)=true→∀m,Wk P w m t cs:=by
 intro fuel
 induction fuel with
 | zero=>intro t cs x h; simp [DataW.trod] at h
 | succ fuel ih=>
  intro t cs x h hB m
  cases m with
  | zero=>trivial
  | succ m=>
   unfold Wk
   split
   ·rename_i ht
    obtain ⟨b,e,hx,hw⟩:=DataW.trod_string ht h
    intro s hs
    rw [hs] at e
    simp only [List.cons.injEq,Value.string.injEq,and_true] at e
    subst e
    rw [hx] at hB
    simp only [DataW.weights,List.all_cons,List.all_nil,Bool.and_true,decide_eq_true_eq] at hB
    have:s.data.size=s.size:=rfl
    first | omega | (simp at hB; omega)
   ·rename_i ht
    intro p n c hs
    rcases DataW.trod_slice ht h with ⟨h0,_⟩ | ⟨a,len,cap,elems,rest,n',hf,e,hx,_,hlc,_,hl,hel,hsp,_⟩
    ·rw [h0] at hs
     simp only [List.cons.injEq,Value.slice.injEq,and_true] at hs
     obtain ⟨rfl,rfl,rfl⟩:=hs
     exact ⟨by omega,fun a h=>by cases h⟩
    ·rw [e] at hs
     simp only [List.cons.injEq,Value.slice.injEq,and_true] at hs
     obtain ⟨rfl,rfl,rfl⟩:=hs
     obtain rfl:fuel=n':=by omega
     rw [hx] at hB
     simp only [DataW.weights,ht,List.all_cons,Bool.and_eq_true,decide_eq_true_eq,List.all_append] at hB
     obtain ⟨hr,_⟩:=hsp rfl
     obtain ⟨hB1,hB2,_⟩:=hB
     simp only [List.length_map,hl,hr] at hB1
     rw [Nat.add_sub_cancel' hlc] at hB1
     refine ⟨hB1,fun a' ha i hi cs' hc=>?_⟩
     injection ha with ha
     subst ha
     have h2:=hel i hi
     rw [hc] at h2
     have hlt:i<elems.length:=by omega
     rw [List.getElem?_eq_getElem hlt] at h2
     have hm:elems[i].1∈elems.map (·.1):=List.mem_map.2 ⟨_,List.getElem_mem hlt,rfl⟩
     exact ih _ _ _ h2 (weights_all hm hB2) m
   ·rename_i fs ht
    obtain ⟨xs,n,hf,hx,hl,hxl,hxi⟩:=DataW.trod_struct ht h
    obtain rfl:fuel=n:=by omega
    intro i f hi
    have h3:=hxi i f hi
    have hlt:i<xs.length:=by rw [hxl]; exact (Array.getElem?_eq_some_iff.1 hi).1
    rw [List.getElem?_eq_getElem hlt] at h3
    rw [hx] at hB
    simp only [DataW.weights,ht] at hB
    refine ih _ _ _ h3 (weights_each (i:=i) (ts:=fs.toList.map (·.type)) (l:=xs.map (·.1)) ?_ ?_ hB) m
    ·rw [List.getElem?_map,Array.getElem?_toList,hi]; rfl
    ·rw [List.getElem?_map,List.getElem?_eq_getElem hlt]; rfl
   ·trivial
theorem wk_of {t:TypeId} {v:Value} {d:DataW H} {ps:List MemPlace} (h:DataW.Trod enc P w 0 (fun _=>true) true t v d ps) (hB:(d.weights P t).all (·≤reachBytes)=true) (m:Nat):Wk P w m t v.cells.toList:=by
 obtain ⟨fuel,hf⟩:=h
 exact wk_trod fuel _ _ _ hf hB m
theorem row_sized {C:Checked} {os:Os} {k:FuncId} {fn:Func} {s:ChangeSpec} {conds:List PathCond} {apart fresh:Bool} {tb:TypeId}
  (own:ownKnob C.prog.godebug=none) (started:os.Started) (noInit:C.prog.inits.idxOf? k=none) (hfn:C.prog.funcs[k]?=some fn)
  (witness:∃(w:World) (tape:Tape) (i:Input),w.os=os∧(w.forCall tape i).Shaped C.prog∧i.vars=[]∧Input.okWide C.prog (w.forCall tape i) .any w.heap.size k i∧
   s.pre6 enc C.prog fn conds apart (w.forCall tape i).memory i.args∧({} : Assume).holds C.prog (lone (Frame.enter C.prog k i.args .normal) [] (w.forCall tape i)))
  (hl:laidOutB C.prog=true) (hread:fn.params.toList.all (fun t=>C.prog.readableRec t&&decide (t<C.prog.types.size))=true)
  (hvars:s.vars=[]) (hres:fn.resultTypes=#[tb]) (hb:C.prog.underlying tb=some .bool)
  (hspec:∀ds:List (DataW H),ds.length=fn.params.toList.length→(s.fn H ds).results=[.lit (.bool true)]∧(s.fn H ds).args=ds∧(s.fn H ds).vars=[])
  (walk:∀(W:World) (base:Nat) (args:Array Value) (ds:List (DataW H)) (ps:List MemPlace),
   (∀(j:Nat) t v,fn.params[j]?=some t→args[j]?=some v→Value.okWide C.prog W .any base t v)→
   DataW.TrodAll enc C.prog W 0 (fun _=>true) true fn.params.toList args.toList ds ps→(DataW.weightsEach C.prog fn.params.toList ds).all (·≤reachBytes)=true→
   Calls C.prog k args W fun e W'=>e=.returned (.bool true)∧Below W.heap.size W W') :
  ReturnsInHanded {} C os k .any (s.pre6 enc C.prog fn conds apart) (s.post enc C.prog fn apart fresh false false):=by
 refine returnsInHanded_of_change_sized own started noInit hfn witness ?_
 intro W base args ds gs before hval hW hcnd hsz _
 have hW':=hW
 obtain ⟨p,q,hA,hV,rfl,hfz,hnd⟩:=hW
 rw [hvars] at hV
 obtain ⟨rfl,rfl⟩:=trodVars_none hV
 have hvt:s.plain.varTypes C.prog=[]:=by
  have:s.plain.vars=[]:=hvars
  unfold DataSpec.varTypes
  rw [this]; rfl
 rw [hvt,List.append_nil,List.append_nil] at hsz
 refine (walk W base args ds p hval hA hsz).mono fun e W' ⟨he,bel⟩=>?_
 subst he
 have hn:=hspec ds (trodAll_length _ _ _ _ hA)
 refine ⟨_,rfl,ds,[],p++[],[],p,[],hW',?_,?_,?_,bel.frame _,fun h=>by cases h⟩
 ·rw [List.append_nil,hn.1,hres]
  exact trodAll_mk1 (shut_bool hb _)
 ·rw [List.append_nil,hn.2.1]
  exact trodAll_below hl bel _ _ _ _ hread hA
 ·rw [List.append_nil,hn.2.2,hvars]
  rfl
end
theorem least_of {P:Nat→Prop} (h:∃n,P n):∃m,P m∧∀k,P k→m≤k:=by
 obtain ⟨n,hn⟩:=h
 induction n using Nat.strongRecOn with
 | ind n ih=>
  by_cases hk:∃k,k<n∧P k
  ·obtain ⟨k,h1,h2⟩:=hk
   exact ih k h1 h2
  ·exact ⟨n,hn,fun k hp=>Nat.le_of_not_lt fun hlt=>hk ⟨k,hlt,hp⟩⟩
open Classical in
theorem lpg_of {G σ:Type} {body:σ→World→(σ→World→Prop)→Prop} {s:σ} {w:World} (I:G→σ→World→Prop) (μ:G→σ→World→Nat) (g:G) (h0:I g s w)
  (h:∀g s w,I g s w→∀Q:σ→World→Prop,(∀g' s' w',I g' s' w'→μ g' s' w'<μ g s w→Q s' w')→body s w Q):lp body s w:=by
 let P:σ→World→Nat→Prop:=fun s w m=>∃g,I g s w∧μ g s w=m
 let ν:σ→World→Nat:=fun s w=>if h:∃m,P s w m then Classical.choose (least_of h) else 0
 have hν:∀s w g,I g s w→P s w (ν s w)∧ν s w≤μ g s w:=fun s w g hg=>by
  have he:∃m,P s w m:=⟨_,g,hg,rfl⟩
  have hs:=Classical.choose_spec (least_of he)
  have e:ν s w=Classical.choose (least_of he):=dif_pos he
  rw [e]
  exact ⟨hs.1,hs.2 _ ⟨g,hg,rfl⟩⟩
 refine lp_of (fun s w=>∃g,I g s w) ν ⟨g,h0⟩ ?_
 rintro s w ⟨g,hg⟩
 obtain ⟨⟨g1,hg1,he⟩,_⟩:=hν s w g hg
 refine h g1 s w hg1 _ fun g' s' w' hg' hlt=>⟨⟨g',hg'⟩,?_⟩
 have:=(hν s' w' g' hg').2
 omega
end Go.Proofs.YtmhjehodfggleaaGreat.Vc

/- Lists of lists of ints that grow, in memory of a thing's own. -/

set_option linter.unusedVariables false
set_option linter.unusedSimpArgs false
set_option linter.unusedSectionVars false
set_option maxRecDepth 100000
namespace Go.Proofs.YtmhjehodfggleaaGreat.Apart
open Go Go.Proofs.YtmhjehodfggleaaGreat.Vc Go.Proofs.YtmhjehodfggleaaGreat.T
structure LL (M:Nat→Prop) (w:World) (p:Option Addr) (n c:Nat) (hs:List Sl) (css:List (List Int)):Prop where
 own:Own w 49 1 p n c (hs.map sv)
 out:∀i,ob p i→M i
 len:css.length=n
 inn:∀(i:Nat) (x:Sl) (es:List Int),hs[i]?=some x→css[i]?=some es→Own w 3 1 x.1 x.2.1 x.2.2 (es.map J)∧∀j,ob x.1 j→M j∧¬ob p j
section
variable {M M':Nat→Prop} {w w':World} {p:Option Addr} {n c:Nat} {hs:List Sl} {css:List (List Int)}
theorem LL.hl (h:LL M w p n c hs css):hs.length=n:=by have:=h.own.len; simpa using this
theorem LL.nil (M:Nat→Prop) (w:World):LL M w none 0 0 [] []:=⟨Own.nil _ _ _,fun i ⟨a,h,_⟩=>(by cases h),rfl,fun i x es h=>by simp at h⟩
theorem LL.keep {U:Nat→Prop} (h:LL M w p n c hs css) (hk:Keep U w w') (hu:∀i,M i→¬U i):LL M w' p n c hs css:=
 ⟨h.own.keep hk fun i hi=>hu i (h.out i hi),h.out,h.len,fun i x es h1 h2=>by
  obtain ⟨h3,h4⟩:=h.inn i x es h1 h2
  exact ⟨h3.keep hk fun j hj=>hu j (h4 j hj).1,h4⟩⟩
theorem LL.keep0 (h:LL M w p n c hs css) (hk:Keep None w w'):LL M w' p n c hs css:=h.keep hk fun _ _ h=>h
theorem LL.mono (h:LL M w p n c hs css) (hm:∀i,i<w.heap.size→M i→M' i):LL M' w p n c hs css:=
 ⟨h.own,fun i hi=>hm i (h.own.lt i hi) (h.out i hi),h.len,fun i x es h1 h2=>by
  obtain ⟨h3,h4⟩:=h.inn i x es h1 h2
  exact ⟨h3,fun j hj=>⟨hm j (h3.lt j hj) (h4 j hj).1,(h4 j hj).2⟩⟩⟩
theorem LL.ix (h:LL M w p n c hs css) {i:Nat} (hi:i<n) {K:Addr→Prop} (hK:∀(a:Addr) (x:Sl) (es:List Int),hs[i]?=some x→css[i]?=some es→w.cell? a=some (sv x)→Own w 3 1 x.1 x.2.1 x.2.2 (es.map J)→(∀j,ob x.1 j→M j∧¬ob p j)→K a):ixA p n (i:Int) 1 K:=by
 have hl:=h.hl
 obtain ⟨x,hx⟩:=getE (show i<hs.length by omega)
 obtain ⟨es,hes⟩:=getE (show i<css.length by have:=h.len; omega)
 refine h.own.ix (by omega) (by omega) fun b hb=>?_
 rw [Int.toNat_natCast,Nat.mul_one]
 obtain ⟨h3,h4⟩:=h.inn i x es hx hes
 refine hK _ x es hx hes ?_ h3 h4
 have hO:=h.own
 rw [hb] at hO
 rw [hO.cell _ (by omega),List.getElem?_map,hx]; rfl
theorem LL.app (h:LL M w p n c hs css) {x:Sl} {es:List Int} (hx:Own w 3 1 x.1 x.2.1 x.2.2 (es.map J)) (hM:∀j,ob x.1 j→M' j∧¬M j) (hMM:∀i,M i→M' i) (hn:n+1≤8796093022208)
  {b:Nat} (hB:Blk w b [sv x] 49) {K:Option Addr→Nat→Nat→World→Prop}
  (hK:∀p' c' w',LL (fun i=>i<w'.heap.size∧(M' i∨w.heap.size≤i)) w' p' (n+1) c' (hs++[x]) (css++[es])→Keep M w w'→K p' (n+1) c' w') :
  ∃(p':Option Addr) (n' c':Nat),∃w':World,(Builtin.append_ #[22,22] 22 #[.slice p n c,.slice (some ⟨b,0,none⟩) 1 1]).run Tryz.prog w=.ok (.slice p' n' c') w'∧K p' n' c' w':=by
 have hl:=h.hl
 have hc:=h.len
 refine app_of3 (e:=49) (sz:=1) (z:=.slice none 0 0) (B:=24) Tryz.underlying22 (by kernel_rfl) rfl (by omega) h.own hB.news1 (fun u hu=>?_) (by simp only [maxLen]; omega) (by omega) fun p' c' w' hO hd=>?_
 ·rw [List.mem_singleton.1 hu]; rfl
 have kk:Keep M w w':=by
  rcases hd with ⟨_,_,_,k'⟩ | ⟨_,k'⟩
  ·exact k'.mono fun i _ hi=>h.out i hi
  ·exact k'.none
 have hsz:=kk.size
 have fresh:∀i,ob p' i→i<w'.heap.size:=hO.lt
 refine hK p' c' w' ⟨by rw [List.map_append]; exact hO,fun i hi=>⟨fresh i hi,?_⟩,by rw [List.length_append,hc]; rfl,fun i y ys h1 h2=>?_⟩ kk
 ·rcases hd with ⟨e,_,_,_⟩ | ⟨e,_⟩
  ·rw [e] at hi; exact Or.inl (hMM i (h.out i hi))
  ·exact Or.inr (e i hi)
 have outp:∀j,j<w.heap.size→¬ob p j→¬ob p' j:=fun j hj hn hi=>by
  rcases hd with ⟨e,_,_,_⟩ | ⟨e,_⟩
  ·rw [e] at hi; exact hn hi
  ·have:=e j hi; omega
 rcases Nat.lt_trichotomy i n with hi | hi | hi
 ·rw [List.getElem?_append_left (by omega)] at h1 h2
  obtain ⟨h3,h4⟩:=h.inn i y ys h1 h2
  refine ⟨?_,fun j hj=>⟨⟨by have:=h3.lt j hj; omega,Or.inl (hMM j (h4 j hj).1)⟩,outp j (h3.lt j hj) (h4 j hj).2⟩⟩
  rcases hd with ⟨_,_,_,k'⟩ | ⟨_,k'⟩
  ·exact h3.keep k' fun j hj hh=>(h4 j hj).2 hh
  ·exact h3.keep0 k'
 ·rw [List.getElem?_append_right (by omega),show i - hs.length=0 by omega] at h1
  rw [List.getElem?_append_right (by omega),show i - css.length=0 by omega] at h2
  simp only [List.getElem?_cons_zero,Option.some.injEq] at h1 h2
  subst h1; subst h2
  have np:∀j,ob x.1 j→¬ob p j:=fun j hj hp=>(hM j hj).2 (h.out j hp)
  refine ⟨?_,fun j hj=>⟨⟨by have:=hx.lt j hj; omega,Or.inl (hM j hj).1⟩,outp j (hx.lt j hj) (np j hj)⟩⟩
  rcases hd with ⟨_,_,_,k'⟩ | ⟨_,k'⟩
  ·exact hx.keep k' fun j hj hh=>np j hj hh
  ·exact hx.keep0 k'
 ·rw [List.getElem?_eq_none (by simp; omega)] at h1; cases h1
theorem LL.set (h:LL M w p n c hs css) {i:Nat} (hi:i<n) {x:Sl} {es:List Int} (hx:Own w 3 1 x.1 x.2.1 x.2.2 (es.map J)) (hM:∀j,ob x.1 j→M' j∧¬M j) (hMM:∀i,M i→M' i)
  {K:World→Prop} (hK:∀w',LL M' w' p n c (hs.set i x) (css.set i es)→Keep M w w'→w'.heap.size=w.heap.size→K w'):ixA p n (i:Int) 1 fun a=>st w (a.add 0) (sv x) K:=by
 have hl:=h.hl
 have hc:=h.len
 refine h.own.ix (by omega) (by omega) fun b hb=>?_
 rw [Int.toNat_natCast,Nat.mul_one,add_mk,Nat.add_zero]
 have hO:=h.own
 rw [hb] at hO
 have kb:∀{w':World},Keep (One b) w w'→Keep M w w':=fun k=>k.mono fun j _ hj=>by
  have hj':j=b:=hj
  rw [hj']; exact h.out b ⟨_,hb,rfl⟩
 have opb:∀j,ob p j↔j=b:=fun j=>⟨fun ⟨a,ha,hj⟩=>by rw [hb] at ha; injection ha with ha; subst ha; exact hj.symm,fun e=>⟨_,hb,e.symm⟩⟩
 refine hO.st (by omega) rfl fun w' hO' hk hs'=>hK w' ⟨?_,fun j hj=>hMM j (h.out j hj),by rw [List.length_set]; exact hc,fun j y ys h1 h2=>?_⟩ (kb hk) hs'
 ·rw [hb,List.map_set]; exact hO'
 ·rw [List.getElem?_set] at h1 h2
  by_cases hij:i=j
  ·subst hij
   rw [if_pos rfl] at h1 h2
   rw [if_pos (by omega)] at h1 h2
   injection h1 with h1; injection h2 with h2
   subst h1; subst h2
   exact ⟨hx.keep hk fun j hj hh=>(hM j hj).2 (h.out j ((opb j).2 hh)),fun j hj=>⟨(hM j hj).1,fun hp=>(hM j hj).2 (h.out j hp)⟩⟩
  ·rw [if_neg hij] at h1 h2
   obtain ⟨h3,h4⟩:=h.inn j y ys h1 h2
   exact ⟨h3.keep hk fun j hj hh=>(h4 j hj).2 ((opb j).2 hh),fun j hj=>⟨hMM j (h4 j hj).1,(h4 j hj).2⟩⟩
theorem LL.cut (h:LL M w p n c hs css) {m:Nat} (hm:m≤n):LL M w p m c (hs.take m) (css.take m):=
 ⟨by have:=h.own.cut hm; rw [Nat.mul_one,←List.map_take] at this; exact this,h.out,by rw [List.length_take,h.len]; omega,fun i x es h1 h2=>by
  rw [List.getElem?_take] at h1 h2
  split at h1
  ·rename_i hlt
   rw [if_pos hlt] at h2
   exact h.inn i x es h1 h2
  ·cases h1⟩
end
end Go.Proofs.YtmhjehodfggleaaGreat.Apart

/- An Engine in memory: a step noted in its log; what is learnt, told; the model; whether it is dead. -/

set_option linter.unusedVariables false
set_option linter.unusedSimpArgs false
set_option linter.unusedSectionVars false
set_option maxRecDepth 100000
namespace Go.Proofs.YtmhjehodfggleaaGreat.Eng
open Go Go.Proofs.YtmhjehodfggleaaGreat.Vc Go.Proofs.YtmhjehodfggleaaGreat.T
open Go.Proofs.YtmhjehodfggleaaGreat.Apart (RdL own_rdl wrap_nat getE own_len take_snoc Sl sv New LL)
open Go.Proofs.YtmhjehodfggleaaGreat.Lits (fl fl_iff Ans ans_of formedP idx idx_range idx_inj indexP)
open Go.Proofs.YtmhjehodfggleaaGreat.Arn (Ar AR words off cw Got)
open Go.Proofs.YtmhjehodfggleaaGreat.Trail (TI Tr St valA levA reaA ownB Moved TLaid above upto freeA implA Open ent)
open Go.Proofs.YtmhjehodfggleaaGreat.Learn (En RdE)
def tNote (t:Int):Prop:=t=-8∨t=-10∨t=-11
def noteS (S:ES) (dr:Bool) (cs:List Int):ES:={S with log:=S.log++[(dr,cs)]}
theorem step2_len (xs:List ((Bool×List Int)×Sl)):(xs.flatMap step2).length=xs.length*2:=by
 induction xs with
 | nil=>rfl
 | cons x xs ih=>rw [List.flatMap_cons,List.length_append,ih,List.length_cons]; simp [step2]; omega
theorem note125 {ex:Nat→Prop} {w:World} {b:Nat} {o:Nat→Int} {h:Hs} {S:ES} (hR:Rp ex w b o h S) {dr:Bool} {p:Option Addr} {n c:Nat} {cs:List Int} (hC:RdL w p n cs) (hn:n≤8796093022208) (hlog:S.log.length≤1099511627776) :
  Calls Tryz.prog 205 #[Pt h.bk,.agg #[.bool dr,.slice p n c]] w fun e w'=>e=.returned (.tuple #[])∧Nx tNote ex w b o h (noteS S dr cs) w':=by
 refine (V205_calls (some ⟨h.bk,0,none⟩) dr p n c w (fun v w'=>v=.tuple #[]∧Nx tNote ex w b o h (noteS S dr cs) w') ?_).mono fun e w' ⟨v,he,hv,hk⟩=>⟨by rw [he,hv],hk⟩
 unfold V205
 refine alc_at fun b2 w1 hb2 hB2 k1=>?_
 have k1d:=k1.drew
 have z1:=k1d.size
 have hRd:=hR.keep0 k1d
 have hB2d:Blk w1.drew b2 _ 123:=hB2.keep0 (Keep.refl None w1).drew
 have lgc:∀{V:World} {K:Option Addr→Nat→Nat→Prop},Blk V h.bk [sv h.lg] 100→K h.lg.1 h.lg.2.1 h.lg.2.2→ldC V ((⟨h.bk,0,none⟩:Addr).add 0) K:=fun {V K} hB hK=>by
  rw [add_mk]; exact ldC_of (x:=h.lg.1) (n:=h.lg.2.1) (c:=h.lg.2.2) (hB.cell 0) hK
 refine nn_of (lgc hRd.bk (ldB_of (x:=dr) (hB2d.cell 0) (ldC_of (x:=p) (n:=n) (c:=c) (hB2d.cell 1) ?_)))
 refine cl_of ok56 (clone40 (hC.keep k1d fun _ _ h=>h) hn) fun e w2 ⟨v,he,cp,cc,hv,hO,hnew,k2⟩=>?_
 subst hv
 have k12:=k1d.then0 k2
 have z12:=k12.size
 have hR2:=hR.keep0 k12
 refine ⟨cp,cs.length,cc,he,ldB_of (x:=dr) ((hB2d.keep0 k2).cell 0) rfl,lgc hR2.bk rfl,?_⟩
 refine alc_at fun b11 w3 hb11 hB11 k3=>?_
 have k13:=k12.then0 k3
 have z3:=k3.size
 have hR3:=hR.keep0 k13
 refine ⟨lgc hR3.bk rfl,?_⟩
 have hlgn:=hR.lg.len
 rw [step2_len,List.length_zip,hR.gll,Nat.min_self] at hlgn
 have hN:News w3 2 (some ⟨b11,0,none⟩) 1 1 (step2 ((dr,cs),(cp,cs.length,cc))):=Or.inr ⟨_,rfl,rfl,fun j u hu=>by
  rw [add_mk,Nat.zero_add,hB11.cell]; exact hu⟩
 have hO3:=hO.keep0 k3
 refine app_of2 (e:=123) (sz:=2) (z:=.agg #[.bool false,.slice none 0 0]) (B:=32) Tryz.underlying78 (by kernel_rfl) rfl (by omega) hR3.lg hN (fun u hu=>?_) (by simp only [maxLen]; omega) (by omega) fun p' c' w4 hO4 hd4=>?_
 ·simp only [step2,List.mem_cons,List.not_mem_nil,or_false] at hu
  rcases hu with rfl | rfl<;>rfl
 have kk:Keep (fun j=>o j=-10) w3 w4:=by
  rcases hd4 with ⟨_,_,_,kk⟩ | ⟨_,kk⟩
  ·exact kk.mono fun j _ hj=>hR.lgO j hj
  ·exact kk.none
 have z4:=kk.size
 have pc:∀j,ob p' j→(j<w.heap.size∧o j=-10)∨w3.heap.size≤j:=fun j hj=>by
  rcases hd4 with ⟨e,_,_,_⟩ | ⟨e,_⟩
  ·rw [e] at hj; exact Or.inl ⟨hR.lg.lt j hj,hR.lgO j hj⟩
  ·exact Or.inr (e j hj)
 have hbk4:Blk w4 h.bk [sv h.lg] 100:=hR3.bk.keep kk fun hh=>by have h1:o h.bk=-10:=hh; rw [hR.bkO] at h1; exact absurd h1 (by decide)
 refine nn_of ?_
 rw [add_mk]
 refine st_of hbk4 (by simp) rfl fun w5 hbk5 k5 z5=>⟨rfl,?_⟩
 have hbkl:=hR.bk.lt
 have kall:Keep (fun j=>tNote (o j)) w w5:=((k13.none (S:=fun j=>tNote (o j))).trans kk fun j _ hh=>Or.inr (Or.inl hh)).trans k5 fun j _ hh=>by
  have hj:j=h.bk:=hh
  show tNote (o j)
  rw [hj,hR.bkO]; exact Or.inl rfl
 have z5':w3.heap.size≤w5.heap.size:=by omega
 have lo:∀{j:Nat},o j≠-9→j<w.heap.size:=fun {j} hj=>by
  apply Classical.byContradiction
  intro hn
  exact hj (hR.nrm j (by omega))
 have nT:∀{t:Int},t≠-8→t≠-10→t≠-11→¬tNote t:=fun a b c hh=>by rcases hh with h | h | h; exact a h; exact b h; exact c h
 have cpl:∀j,ob cp j→w.heap.size≤j∧j<w3.heap.size:=fun j hj=>⟨by have:=hnew j hj; omega,hO3.lt j hj⟩
 let o':Nat→Int:=fun j=>open Classical in if j<w.heap.size then o j else if ob cp j then -11 else if ob p' j then -10 else -9
 have e0:∀{j:Nat} {t:Int},t≠-9→o j=t→o' j=t:=fun {j} {t} hne hj=>by
  show (open Classical in if j<w.heap.size then o j else _)=t
  rw [if_pos (lo (by rw [hj]; exact hne))]; exact hj
 have har:=hR.arK (T:=tNote) kall (nT (by decide) (by decide) (by decide))
 have hhd:=hR.heldK (T:=tNote) kall (nT (by decide) (by decide) (by decide)) (nT (by decide) (by decide) (by decide))
 have k35:∀j,w.heap.size≤j→j<w3.heap.size→¬(o j=-10)∧j≠h.bk:=fun j h1 h2=>⟨by rw [hR.nrm j h1]; decide,by omega⟩
 have hgl5:∀(i:Nat) (x:Bool×List Int) (y:Sl),S.log[i]?=some x→h.gl[i]?=some y→RdL w5 y.1 y.2.1 x.2:=fun i x y hx hy=>by
  obtain ⟨g1,g2⟩:=hR.gl i x y hx hy
  have hne:∀j,ob y.1 j→¬(o j=-10)∧j≠h.bk:=fun j hj=>⟨by rw [(g2 j hj).1]; decide,fun e=>by have:=(g2 j hj).1; rw [e,hR.bkO] at this; exact absurd this (by decide)⟩
  exact ((g1.keep k13 fun _ _ h=>h).keep kk fun j hj=>(hne j hj).1).keep k5 fun j hj hh=>(hne j hj).2 hh
 have hcp5:RdL w5 cp cs.length cs:=((own_rdl hO3).keep kk fun j hj=>(k35 j (cpl j hj).1 (cpl j hj).2).1).keep k5 fun j hj hh=>(k35 j (cpl j hj).1 (cpl j hj).2).2 hh
 refine ⟨o',{h with lg:=(p',h.lg.2.1+1,c'),gl:=h.gl++[(cp,cs.length,cc)]},⟨blk_K (T:=tNote) hR.self hR.selfO kall (nT (by decide) (by decide) (by decide)),e0 (by decide) hR.selfO,ar_grow har (fun i hi=>⟨e0 (by decide) hi.1,hi.2⟩) (fun i hi=>hi.2),Rp.trK (h:=h) (S:=S) (T:=tNote) hR kall (nT (by decide) (by decide) (by decide)),fun j hj=>e0 (by decide) (hR.trO j hj),
  own_K (T:=tNote) hR.oo hR.ooO kall (nT (by decide) (by decide) (by decide)),fun j hj=>e0 (by decide) (hR.ooO j hj),own_K (T:=tNote) hR.out hR.outO kall (nT (by decide) (by decide) (by decide)),fun j hj=>e0 (by decide) (hR.outO j hj),hR.hhl,hR.lsl,
  Rp.innK (h:=h) (S:=S) (T:=tNote) hR kall (fun i hi=>⟨hi,nT (by omega) (by omega) (by omega)⟩),fun i x hx j hj=>⟨e0 (by omega) (Rp.innOK (h:=h) (S:=S) (T:=tNote) hR kall i x hx j hj).1,(Rp.innOK (h:=h) (S:=S) (T:=tNote) hR kall i x hx j hj).2⟩,
  own_K (T:=tNote) hR.sh hR.shO kall (nT (by decide) (by decide) (by decide)),fun j hj=>e0 (by decide) (hR.shO j hj),own_K (T:=tNote) hR.le hR.leO kall (nT (by decide) (by decide) (by decide)),fun j hj=>e0 (by decide) (hR.leO j hj),
  hbk5,e0 (by decide) hR.bkO,?_,fun j hj=>?_,by show (h.gl++[_]).length=(S.log++[_]).length; rw [List.length_append,List.length_append,hR.gll]; rfl,fun i x y hx hy=>?_,
  fun i d' hd'=>by
   obtain ⟨h1,h2,h3,h4⟩:=hhd i d' hd'
   exact ⟨h1,e0 (by decide) h2,h3,fun j hj=>⟨e0 (by decide) (h4 j hj).1,(h4 j hj).2⟩⟩,hR.inj,fun j hj=>?_⟩,fun j hj=>if_pos hj,kall,rfl⟩
 ·show Own w5 123 2 p' (h.lg.2.1+1) c' (((S.log++[(dr,cs)]).zip (h.gl++[(cp,cs.length,cc)])).flatMap step2)
  rw [List.zip_append hR.gll.symm,List.flatMap_append]
  refine Own.keep (w:=w4) ?_ k5 fun j hj hh=>?_
  ·have:=hO4
   rw [show ([(dr,cs)].zip [(cp,cs.length,cc)]).flatMap step2=step2 ((dr,cs),(cp,cs.length,cc)) by simp]
   exact this
  ·have hjb:j=h.bk:=hh
   rcases pc j hj with h1 | h1
   ·rw [hjb,hR.bkO] at h1; exact absurd h1.2 (by decide)
   ·omega
 ·show (open Classical in if j<w.heap.size then o j else if ob cp j then -11 else if ob p' j then -10 else -9)=-10
  rcases pc j hj with h1 | h1
  ·rw [if_pos h1.1]; exact h1.2
  ·rw [if_neg (by omega),if_neg fun hh=>by have:=(cpl j hh).2; omega,if_pos hj]
 ·have hx':(S.log++[(dr,cs)])[i]?=some x:=hx
  have hy':(h.gl++[(cp,cs.length,cc)])[i]?=some y:=hy
  by_cases hi:i<S.log.length
  ·rw [List.getElem?_append_left hi] at hx'
   rw [List.getElem?_append_left (by rw [hR.gll]; exact hi)] at hy'
   exact ⟨hgl5 i x y hx' hy',fun j hj=>⟨e0 (by decide) ((hR.gl i x y hx' hy').2 j hj).1,by have:=((hR.gl i x y hx' hy').2 j hj).2; omega⟩⟩
  ·have hi2:i=S.log.length:=by
    have:=(List.getElem?_eq_some_iff.1 hx').1
    rw [List.length_append] at this
    simp only [List.length_singleton] at this; omega
   subst hi2
   rw [List.getElem?_append_right (Nat.le_refl _),Nat.sub_self] at hx'
   rw [List.getElem?_append_right (by rw [hR.gll]; exact Nat.le_refl _),hR.gll,Nat.sub_self] at hy'
   simp only [List.getElem?_cons_zero,Option.some.injEq] at hx' hy'
   subst hx'; subst hy'
   refine ⟨hcp5,fun j hj=>⟨?_,by have:=(cpl j hj).2; omega⟩⟩
   show (open Classical in if j<w.heap.size then o j else if ob cp j then -11 else if ob p' j then -10 else -9)=-11
   rw [if_neg (by have:=(cpl j hj).1; omega),if_pos hj]
 ·show (open Classical in if j<w.heap.size then o j else if ob cp j then -11 else if ob p' j then -10 else -9)=-9
  rw [if_neg (by omega),if_neg fun hh=>by have:=(cpl j hh).2; omega,if_neg fun hh=>by rcases pc j hh with h1 | h1; omega; have:=hO4.lt j hh; omega]
def heldLits (S:ES) (k:Nat):List Int:=((S.H[k]?).map fun d=>d.ls).getD []
def learntsS (S:ES):List (List Int):=S.learnts.map (heldLits S)
theorem learnts15 {ex : Nat → Prop} {w : World} {b : Nat} {o : Nat → Int} {h : Hs} {S : ES} (hR : Rp ex w b o h S) (hle : ∀ k ∈ S.learnts, k < S.H.length) (hll : S.learnts.length ≤ 1099511627776) (hdl : ∀ (k : Nat) (d : Hd), S.H[k]? = some d → d.ls.length ≤ 8796093022208) :
    Calls Tryz.prog 23 #[Pt b] w fun e w' => ∃ p n c hs, e = .returned (.slice p n c) ∧ LL (fun i => w.heap.size ≤ i) w' p n c hs (learntsS S) ∧ Keep None w w' := by
  refine (V23_calls (some ⟨b, 0, none⟩) w (fun v w' => ∃ p n c hs, v = .slice p n c ∧ LL (fun i => w.heap.size ≤ i) w' p n c hs (learntsS S) ∧ Keep None w w') ?_).mono fun e w' ⟨v, he, p, n, c, hs, hv, hk⟩ => ⟨p, n, c, hs, by rw [he, hv], hk⟩
  unfold V23
  have hln := pts_len hR.le
  refine nn_of (ldC_of (x := h.le.1) (n := h.le.2.1) (c := h.le.2.2) (by rw [add_mk]; exact hR.self.cell 6) ?_)
  refine lp_of (fun s W => ∃ (i : Nat) (hs : List Sl), s.2.1 = (i : Int) ∧ i ≤ S.learnts.length ∧ LL (fun j => w.heap.size ≤ j ∧ j < W.heap.size) W s.1.1 s.1.2.1 s.1.2.2 hs ((S.learnts.take i).map (heldLits S)) ∧ Keep None w W) (fun s _ => (S.learnts.length - s.2.1).toNat)
    ⟨0, [], rfl, Nat.zero_le _, LL.nil _ _, Keep.refl _ _⟩ ?_
  rintro ⟨⟨sp, sn, sc⟩, i', ⟨⟩⟩ W ⟨i, hs, rfl, hi, hL, kW⟩
  dsimp only at hL ⊢
  have hsn : sn = i := by have := hL.len; rw [List.length_map, List.length_take] at this; omega
  refine pif_of (fun hlt => ?_) fun hge => ?_
  · have hlt : i < S.learnts.length := by have : (i : Int) < (h.le.2.1 : Int) := by simpa using hlt
                                          omega
    rw [wrap_nat i (by omega)]
    obtain ⟨k, hk⟩ := getE hlt
    obtain ⟨d, hd⟩ := getE (hle k (List.mem_of_getElem? hk))
    have hRW := hR.keep0 kW
    have hle := hRW.le
    refine hRW.le.ix (by omega) (by omega) fun bq hbq => ?_
    rw [hbq] at hle
    refine ldP_of (x := some ⟨h.hb k, 0, none⟩) (by rw [hle.cell _ (by omega), Int.toNat_natCast, Nat.mul_one, List.getElem?_map, hk]; rfl) ?_
    obtain ⟨hB, _, hRd, _⟩ := hRW.held k d hd
    have hdn := hRd.len
    have hdl' := hdl k d hd
    refine nn_of (ldC_of (x := (h.hl k).1) (n := (h.hl k).2.1) (c := (h.hl k).2.2) (by rw [add_mk]; exact hB.cell 1) ?_)
    refine cl_of ok56 (clone40 hRd (by omega)) fun e w2 ⟨v, he, cp, cc, hv, hO, hnew, k2⟩ => ?_
    subst hv
    refine ⟨cp, d.ls.length, cc, he, ?_⟩
    refine alc_at fun b19 w3 hb19 hB19 k3 => ?_
    have k23 := k2.then0 k3
    have z2 := k2.size
    have z3 := k3.size
    have zW := kW.size
    refine (hL.keep0 k23).app (x := (cp, d.ls.length, cc)) (es := d.ls) (M' := fun j => w.heap.size ≤ j) (hO.keep0 k3) (fun j hj => ⟨by have := hnew j hj; omega, fun hh => by have := hnew j hj; omega⟩) (fun j hj => hj.1) (by omega) hB19 fun p' c' w4 hL4 kk => ?_
    have eH : heldLits S k = d.ls := by unfold heldLits; rw [hd]; rfl
    have z4 := kk.size
    refine ⟨⟨i + 1, hs ++ [(cp, d.ls.length, cc)], rfl, hlt, ?_, (kW.then0 k23).trans kk fun j hj hh => by have := hh.1; omega⟩, by omega⟩
    have e1 : (S.learnts.take (i + 1)).map (heldLits S) = (S.learnts.take i).map (heldLits S) ++ [d.ls] := by rw [take_snocN hk, List.map_append, ← eH]; rfl
    rw [e1]
    exact hL4.mono fun j hj hh => ⟨by rcases hh.2 with h | h; exact h; omega, hj⟩
  · have hge : i = S.learnts.length := by have : ¬ (i : Int) < (h.le.2.1 : Int) := by simpa using hge
                                          omega
    subst hge
    rw [List.take_length] at hL
    exact ⟨sp, sn, sc, hs, rfl, hL.mono fun j _ hj => hj.1, kW⟩
theorem dead13 {ex:Nat→Prop} {w:World} {b:Nat} {o:Nat→Int} {h:Hs} {S:ES} (hR:Rp ex w b o h S):Calls Tryz.prog 22 #[Pt b] w fun e w'=>e=.returned (.bool S.dead)∧w'=w:=by
 refine (V22_calls (some ⟨b,0,none⟩) w (fun v w'=>v=.bool S.dead∧w'=w) ?_).mono fun e w' ⟨v,he,hv,hk⟩=>⟨by rw [he,hv],hk⟩
 unfold V22
 exact nn_of (ldB_of (x:=S.dead) (by rw [add_mk]; exact hR.self.cell 11) ⟨rfl,rfl⟩)
end Go.Proofs.YtmhjehodfggleaaGreat.Eng

/- An Engine in memory: its arena written; a clause held; the learnt clauses' list; the model. -/

set_option linter.unusedVariables false
set_option linter.unusedSimpArgs false
set_option linter.unusedSectionVars false
set_option maxRecDepth 100000
namespace Go.Proofs.YtmhjehodfggleaaGreat.Eng
open Go Go.Proofs.YtmhjehodfggleaaGreat.Vc Go.Proofs.YtmhjehodfggleaaGreat.T
open Go.Proofs.YtmhjehodfggleaaGreat.Apart (RdL own_rdl wrap_nat getE own_len take_snoc Sl sv New LL)
open Go.Proofs.YtmhjehodfggleaaGreat.Lits (fl fl_iff Ans ans_of formedP idx idx_range idx_inj indexP)
open Go.Proofs.YtmhjehodfggleaaGreat.Arn (Ar AR words off cw Got)
open Go.Proofs.YtmhjehodfggleaaGreat.Trail (TI Tr St valA levA reaA ownB Moved TLaid above upto freeA implA Open ent)
open Go.Proofs.YtmhjehodfggleaaGreat.Learn (En RdE)
abbrev tAr (t:Int):Prop:=t=-2
theorem Rp.arTo {ex:Nat→Prop} {w w':World} {b:Nat} {o:Nat→Int} {h:Hs} {S:ES} (hR:Rp ex w b o h S) {A':Ar} {M':Nat→Prop} (hA:AR M' w' h.st A') (hgr:∀i,M' i→(o i=-2∧i<w.heap.size)∨w.heap.size≤i) (hk:Keep (fun i=>o i=-2∧i<w.heap.size) w w') :
  Nx tAr ex w b o h {S with ar:=A'} w':=by
 have kall:Keep (fun j=>tAr (o j)) w w':=hk.mono fun j _ hh=>hh.1
 have z:=hk.size
 have lo:∀{j:Nat},o j≠-9→j<w.heap.size:=fun {j} hj=>by
  apply Classical.byContradiction
  intro hn
  exact hj (hR.nrm j (by omega))
 let o':Nat→Int:=fun j=>open Classical in if j<w.heap.size then o j else if M' j then -2 else -9
 have e0:∀{j:Nat} {t:Int},t≠-9→o j=t→o' j=t:=fun {j} {t} hne hj=>by
  show (open Classical in if j<w.heap.size then o j else _)=t
  rw [if_pos (lo (by rw [hj]; exact hne))]; exact hj
 have hhd:=Rp.heldK (h:=h) (S:=S) (T:=tAr) hR kall (by decide) (by decide)
 have hgl:=Rp.glK (h:=h) (S:=S) (T:=tAr) hR kall (by decide)
 have no:∀i:Nat,¬tAr i:=fun i hh=>by have hh':(i:Int)=-2:=hh; omega
 refine ⟨o',h,⟨blk_K (T:=tAr) hR.self hR.selfO kall (by decide),e0 (by decide) hR.selfO,ar_grow hA (fun i hi=>⟨?_,hA.lt i hi⟩) (fun i hi=>hi.2),Rp.trK (h:=h) (S:=S) (T:=tAr) hR kall (by decide),fun j hj=>e0 (by decide) (hR.trO j hj),
  own_K (T:=tAr) hR.oo hR.ooO kall (by decide),fun j hj=>e0 (by decide) (hR.ooO j hj),own_K (T:=tAr) hR.out hR.outO kall (by decide),fun j hj=>e0 (by decide) (hR.outO j hj),hR.hhl,hR.lsl,
  Rp.innK (h:=h) (S:=S) (T:=tAr) hR kall (fun i hi=>⟨hi,no i⟩),fun i x hx j hj=>⟨e0 (by omega) (Rp.innOK (h:=h) (S:=S) (T:=tAr) hR kall i x hx j hj).1,(Rp.innOK (h:=h) (S:=S) (T:=tAr) hR kall i x hx j hj).2⟩,
  own_K (T:=tAr) hR.sh hR.shO kall (by decide),fun j hj=>e0 (by decide) (hR.shO j hj),own_K (T:=tAr) hR.le hR.leO kall (by decide),fun j hj=>e0 (by decide) (hR.leO j hj),
  blk_K (T:=tAr) hR.bk hR.bkO kall (by decide),e0 (by decide) hR.bkO,own_K (T:=tAr) hR.lg hR.lgO kall (by decide),fun j hj=>e0 (by decide) (hR.lgO j hj),hR.gll,
  fun i x y hx hy=>⟨(hgl i x y hx hy).1,fun j hj=>⟨e0 (by decide) ((hgl i x y hx hy).2 j hj).1,((hgl i x y hx hy).2 j hj).2⟩⟩,
  fun i d' hd'=>by
   obtain ⟨h1,h2,h3,h4⟩:=hhd i d' hd'
   exact ⟨h1,e0 (by decide) h2,h3,fun j hj=>⟨e0 (by decide) (h4 j hj).1,(h4 j hj).2⟩⟩,hR.inj,fun j hj=>?_⟩,fun j hj=>if_pos hj,kall,rfl⟩
 ·show (open Classical in if i<w.heap.size then o i else if M' i then -2 else -9)=-2
  rcases hgr i hi with h1 | h1
  ·rw [if_pos h1.2]; exact h1.1
  ·rw [if_neg (by omega),if_pos hi]
 ·show (open Classical in if j<w.heap.size then o j else if M' j then -2 else -9)=-9
  rw [if_neg (by omega),if_neg fun hh=>by have:=hA.lt j hh; omega]
def putAr (S:ES) (cs:List Int):ES:={S with ar:=⟨S.ar.cs++[cs],S.ar.live++[((words S.ar.cs).length:Int)]⟩}
theorem putA {ex:Nat→Prop} {w:World} {b:Nat} {o:Nat→Int} {h:Hs} {S:ES} (hR:Rp ex w b o h S) {p:Option Addr} {n c:Nat} {cs:List Int} (hC:RdL w p n cs) (hN:News w 1 p n c (cs.map I)) (hn:n≤17592186044416) (hq:∀j,ob p j→0<n→o j≠-2) (hf:∀x∈cs,fl x=true) (hw:(words S.ar.cs).length+n+1≤17592186044416) (hl:S.ar.cs.length+1≤17592186044416) (flag:Bool) :
  Calls Tryz.prog 45 #[Pt h.st,.slice p n c,.bool flag] w fun e w'=>e=.returned (.tuple #[I ((words S.ar.cs).length:Nat),I 0])∧Nx tAr ex w b o h (putAr S cs) w':=
 (Arn.put25 hR.ar hC hN hn (fun j hj h0 hh=>hq j hj h0 hh.1) hf hw hl flag).mono fun e w' ⟨he,M',hA⟩=>⟨he,hR.arTo hA.ar hA.gr hA.kp⟩
def dropAr (S:ES) (r:Int):ES:={S with ar:=⟨S.ar.cs,S.ar.live.erase r⟩}
theorem dropA {ex:Nat→Prop} {w:World} {b:Nat} {o:Nat→Int} {h:Hs} {S:ES} (hR:Rp ex w b o h S) (r:Int) :
  Calls Tryz.prog 109 #[Pt h.st,I r] w fun e w'=>∃x,e=.returned (I x)∧Nx tAr ex w b o h (dropAr S r) w':=
 (Arn.drop38 hR.ar r).mono fun e w' hh=>by
  rcases hh with ⟨he,hn,hk⟩ | ⟨he,hm,M',hA⟩
  ·refine ⟨2,he,?_⟩
   have:dropAr S r=S:=by unfold dropAr; rw [List.erase_of_not_mem hn]
   rw [this]
   exact (Nx.refl hR).keep0 hk
  ·exact ⟨0,he,hR.arTo hA.ar hA.gr hA.kp⟩
section
variable {ex:Nat→Prop} {w w':World} {b:Nat} {o:Nat→Int} {h:Hs} {S:ES}
theorem Rp.addHeld (hR:Rp ex w b o h S) {bb:Nat} {x:Sl} {d:Hd} (hB:Blk w bb [I d.at_,sv x,I d.e0,I d.e1,.bool d.gone] 113) (hbo:o bb=-9) (hC:RdL w x.1 x.2.1 d.ls) (hxo:∀j,ob x.1 j→o j=-9∧j≠bb∧j<w.heap.size)
  (hls:∀(i:Nat) (ids:List Nat),S.lists[i]?=some ids→∀k∈ids,k<S.H.length) (hsh:∀k∈S.short,k<S.H.length) (hle:∀k∈S.learnts,k<S.H.length) :
  ∃o' h',Rp ex w b o' h' {S with H:=S.H++[d]}∧(∀j,o' j=o j∨j=bb∨ob x.1 j)∧h'.hb S.H.length=bb∧(∀i,i<S.H.length→h'.hb i=h.hb i)∧h'.st=h.st∧h'.bk=h.bk:=by
 let o':Nat→Int:=fun j=>open Classical in if j=bb then -12 else if ob x.1 j then -13 else o j
 have hB':=hB.lt
 have hT:Rp ex w b o' h S:=hR.tag (fun j hj=>by
  show (open Classical in if j=bb then -12 else if ob x.1 j then -13 else o j)=o j
  rw [if_neg (fun e:j=bb=>hj (e ▸ hbo)),if_neg fun e=>hj (hxo j e).1]) fun j hj=>by
  show (open Classical in if j=bb then -12 else if ob x.1 j then -13 else o j)=-9
  rw [if_neg (by omega),if_neg fun e=>by have:=(hxo j e).2.2; omega]
  exact hR.nrm j hj
 let hb':Nat→Nat:=fun i=>if i=S.H.length then bb else h.hb i
 let hl':Nat→Sl:=fun i=>if i=S.H.length then x else h.hl i
 have hbe:∀i,i<S.H.length→hb' i=h.hb i:=fun i hi=>if_neg (by omega)
 have hle':∀i,i<S.H.length→hl' i=h.hl i:=fun i hi=>if_neg (by omega)
 have mp:∀ids:List Nat,(∀k∈ids,k<S.H.length)→(ids.map fun k=>Pt (hb' k))=ids.map fun k=>Pt (h.hb k):=fun ids hi=>List.map_congr_left fun k hk=>by rw [hbe k (hi k hk)]
 have obb:o' bb=-12:=if_pos rfl
 refine ⟨o',{h with hb:=hb',hl:=hl'},⟨hT.self,hT.selfO,hT.ar,hT.tr,hT.trO,hT.oo,hT.ooO,hT.out,hT.outO,hT.hhl,hT.lsl,fun i y ids hy hi hn=>?_,hT.innO,?_,hT.shO,?_,hT.leO,hT.bk,hT.bkO,hT.lg,hT.lgO,hT.gll,hT.gl,fun i d' hd'=>?_,fun i j hi hj he=>?_,hT.nrm⟩,fun j=>?_,if_pos rfl,hbe,rfl,rfl⟩
 ·show Own w _ 1 _ _ _ (ids.map fun k=>Pt (hb' k))
  rw [mp ids (hls i ids hi)]
  exact hT.inn i y ids hy hi hn
 ·show Own w _ 1 _ _ _ (S.short.map fun k=>Pt (hb' k))
  rw [mp _ hsh]; exact hT.sh
 ·show Own w _ 1 _ _ _ (S.learnts.map fun k=>Pt (hb' k))
  rw [mp _ hle]; exact hT.le
 ·have hd2:(S.H++[d])[i]?=some d':=hd'
  by_cases hi:i<S.H.length
  ·rw [List.getElem?_append_left hi] at hd2
   show Blk w (hb' i) [I d'.at_,sv (hl' i),_,_,_] _∧o' (hb' i)=-12∧RdL w (hl' i).1 (hl' i).2.1 d'.ls∧∀j,ob (hl' i).1 j→o' j=-13∧j<w.heap.size
   rw [hbe i hi,hle' i hi]
   exact hT.held i d' hd2
  ·have hi2:i=S.H.length:=by
    have:=(List.getElem?_eq_some_iff.1 hd2).1
    rw [List.length_append] at this
    simp only [List.length_singleton] at this; omega
   subst hi2
   rw [List.getElem?_append_right (Nat.le_refl _),Nat.sub_self] at hd2
   simp only [List.getElem?_cons_zero,Option.some.injEq] at hd2
   subst hd2
   show Blk w (hb' S.H.length) [I d.at_,sv (hl' S.H.length),_,_,_] _∧o' (hb' S.H.length)=-12∧RdL w (hl' S.H.length).1 (hl' S.H.length).2.1 d.ls∧∀j,ob (hl' S.H.length).1 j→o' j=-13∧j<w.heap.size
   rw [show hb' S.H.length=bb from if_pos rfl,show hl' S.H.length=x from if_pos rfl]
   refine ⟨hB,obb,hC,fun j hj=>⟨?_,(hxo j hj).2.2⟩⟩
   show (open Classical in if j=bb then -12 else if ob x.1 j then -13 else o j)=-13
   rw [if_neg (hxo j hj).2.1,if_pos hj]
 ·have hi':i<(S.H++[d]).length:=hi
  have hj':j<(S.H++[d]).length:=hj
  rw [List.length_append] at hi' hj'
  simp only [List.length_singleton] at hi' hj'
  have he':hb' i=hb' j:=he
  have old:∀k,k<S.H.length→h.hb k≠bb:=fun k hk e=>by
   obtain ⟨dk,hdk⟩:=getE hk
   have:=(hR.held k dk hdk).2.1
   rw [e,hbo] at this; exact absurd this (by decide)
  by_cases h1:i<S.H.length<;>by_cases h2:j<S.H.length
  ·rw [hbe i h1,hbe j h2] at he'; exact hR.inj i j h1 h2 he'
  ·have e2:j=S.H.length:=by omega
   rw [hbe i h1,e2,show hb' S.H.length=bb from if_pos rfl] at he'
   exact absurd he' (old i h1)
  ·have e1:i=S.H.length:=by omega
   rw [hbe j h2,e1,show hb' S.H.length=bb from if_pos rfl] at he'
   exact absurd he'.symm (old j h2)
  ·omega
 ·show (open Classical in if j=bb then -12 else if ob x.1 j then -13 else o j)=o j∨_
  by_cases h1:j=bb
  ·exact Or.inr (Or.inl h1)
  ·by_cases h2:ob x.1 j
   ·exact Or.inr (Or.inr h2)
   ·rw [if_neg h1,if_neg h2]; exact Or.inl rfl
end
def tLe (t:Int):Prop:=t=-1∨t=-7
theorem pushLe {ex:Nat→Prop} {w:World} {b:Nat} {o:Nat→Int} {h:Hs} {S:ES} (hR:Rp ex w b o h S) {k:Nat} (hll:S.learnts.length≤8796093022208) {K:World→Prop} (hK:∀w',Nx tLe ex w b o h {S with learnts:=S.learnts++[k]} w'→K w') :
  nn (some ⟨b,0,none⟩) fun p50=>ldC w (p50.add 6) fun x51 x51n x51c=>alc w [Pt (h.hb k)] 110 fun b52 w12=>
   ∃(x53:Option Addr) (x53n x53c:Nat),∃w13:World,(Builtin.append_ #[101,101] 101 #[.slice x51 x51n x51c,.slice (some (⟨b52,0,none⟩:Addr)) 1 1]).run Tryz.prog w12=.ok (.slice x53 x53n x53c) w13∧
   nn (some ⟨b,0,none⟩) fun p54=>Vc.st w13 ((p54.add 6).add 0) (.slice x53 x53n x53c) K:=by
 refine nn_of (ldC_of (x:=h.le.1) (n:=h.le.2.1) (c:=h.le.2.2) (by rw [add_mk]; exact hR.self.cell 6) (alc_at fun b52 w1 hb hB k1=>?_))
 have z1:=k1.size
 have hR1:=hR.keep0 k1
 have hln:=pts_len hR.le
 refine app_of2 (e:=110) (sz:=1) (z:=.pointer none) (B:=8) Tryz.underlying101 (by kernel_rfl) rfl (by omega) hR1.le hB.news1 (fun u hu=>?_) (by simp only [maxLen]; omega) (by omega) fun p' c' w2 hO hd=>?_
 ·simp only [List.mem_singleton] at hu; subst hu; rfl
 have kk:Keep (fun j=>o j=-7) w1 w2:=by
  rcases hd with ⟨_,_,_,kk⟩ | ⟨_,kk⟩
  ·exact kk.mono fun j _ hj=>hR.leO j hj
  ·exact kk.none
 have z2:=kk.size
 have pc:∀j,ob p' j→(j<w.heap.size∧o j=-7)∨w1.heap.size≤j:=fun j hj=>by
  rcases hd with ⟨e,_,_,_⟩ | ⟨e,_⟩
  ·rw [e] at hj; exact Or.inl ⟨hR.le.lt j hj,hR.leO j hj⟩
  ·exact Or.inr (e j hj)
 have hs2:=blk_K (T:=fun t=>t=-7) hR1.self hR.selfO kk (by decide)
 refine nn_of ?_
 rw [add_mk,add_mk]
 refine st_of hs2 (by simp) rfl fun w3 hs3 k3 z3=>hK w3 ?_
 have hbl:=hR.self.lt
 have kall:Keep (fun j=>tLe (o j)) w w3:=((k1.none (S:=fun j=>tLe (o j))).trans kk fun j _ hh=>Or.inr hh).trans k3 fun j _ hh=>by
  have hj:j=b:=hh
  show tLe (o j)
  rw [hj,hR.selfO]; exact Or.inl rfl
 have lo:∀{j:Nat},o j≠-9→j<w.heap.size:=fun {j} hj=>by
  apply Classical.byContradiction
  intro hn
  exact hj (hR.nrm j (by omega))
 have nT:∀{t:Int},t≠-1→t≠-7→¬tLe t:=fun a b hh=>by rcases hh with h | h; exact a h; exact b h
 let o':Nat→Int:=fun j=>open Classical in if j<w.heap.size then o j else if ob p' j then -7 else -9
 have e0:∀{j:Nat} {t:Int},t≠-9→o j=t→o' j=t:=fun {j} {t} hne hj=>by
  show (open Classical in if j<w.heap.size then o j else _)=t
  rw [if_pos (lo (by rw [hj]; exact hne))]; exact hj
 have har:=hR.arK (T:=tLe) kall (nT (by decide) (by decide))
 have hhd:=Rp.heldK (h:=h) (S:=S) (T:=tLe) hR kall (nT (by decide) (by decide)) (nT (by decide) (by decide))
 have hgl:=Rp.glK (h:=h) (S:=S) (T:=tLe) hR kall (nT (by decide) (by decide))
 refine ⟨o',{h with le:=(p',h.le.2.1+1,c')},⟨hs3,e0 (by decide) hR.selfO,ar_grow har (fun i hi=>⟨e0 (by decide) hi.1,hi.2⟩) (fun i hi=>hi.2),Rp.trK (h:=h) (S:=S) (T:=tLe) hR kall (nT (by decide) (by decide)),fun j hj=>e0 (by decide) (hR.trO j hj),
  own_K (T:=tLe) hR.oo hR.ooO kall (nT (by decide) (by decide)),fun j hj=>e0 (by decide) (hR.ooO j hj),own_K (T:=tLe) hR.out hR.outO kall (nT (by decide) (by decide)),fun j hj=>e0 (by decide) (hR.outO j hj),hR.hhl,hR.lsl,
  Rp.innK (h:=h) (S:=S) (T:=tLe) hR kall (fun i hi=>⟨hi,nT (by omega) (by omega)⟩),fun i x hx j hj=>⟨e0 (by omega) (Rp.innOK (h:=h) (S:=S) (T:=tLe) hR kall i x hx j hj).1,(Rp.innOK (h:=h) (S:=S) (T:=tLe) hR kall i x hx j hj).2⟩,
  own_K (T:=tLe) hR.sh hR.shO kall (nT (by decide) (by decide)),fun j hj=>e0 (by decide) (hR.shO j hj),?_,fun j hj=>?_,
  blk_K (T:=tLe) hR.bk hR.bkO kall (nT (by decide) (by decide)),e0 (by decide) hR.bkO,own_K (T:=tLe) hR.lg hR.lgO kall (nT (by decide) (by decide)),fun j hj=>e0 (by decide) (hR.lgO j hj),hR.gll,
  fun i x y hx hy=>⟨(hgl i x y hx hy).1,fun j hj=>⟨e0 (by decide) ((hgl i x y hx hy).2 j hj).1,((hgl i x y hx hy).2 j hj).2⟩⟩,
  fun i d' hd'=>by
   obtain ⟨h1,h2,h3,h4⟩:=hhd i d' hd'
   exact ⟨h1,e0 (by decide) h2,h3,fun j hj=>⟨e0 (by decide) (h4 j hj).1,(h4 j hj).2⟩⟩,hR.inj,fun j hj=>?_⟩,fun j hj=>if_pos hj,kall,rfl⟩
 ·show Own w3 _ 1 p' (h.le.2.1+1) c' ((S.learnts++[k]).map fun k=>Pt (h.hb k))
  rw [List.map_append]
  refine hO.keep k3 fun j hj hh=>?_
  have hjb:j=b:=hh
  rcases pc j hj with h1 | h1
  ·rw [hjb,hR.selfO] at h1; exact absurd h1.2 (by decide)
  ·omega
 ·show (open Classical in if j<w.heap.size then o j else if ob p' j then -7 else -9)=-7
  rcases pc j hj with h1 | h1
  ·rw [if_pos h1.1]; exact h1.2
  ·rw [if_neg (by omega),if_pos hj]
 ·show (open Classical in if j<w.heap.size then o j else if ob p' j then -7 else -9)=-9
  rw [if_neg (by omega),if_neg fun hh=>by rcases pc j hh with h1 | h1; omega; have:=hO.lt j hh; omega]
def modelS (S:ES):Option (List Bool):=if S.rest=false∨S.R.length<S.nv then none else some ((List.range S.nv).map fun (i:Nat)=>decide (0<vl S ((i:Int)+1)))
end Go.Proofs.YtmhjehodfggleaaGreat.Eng
