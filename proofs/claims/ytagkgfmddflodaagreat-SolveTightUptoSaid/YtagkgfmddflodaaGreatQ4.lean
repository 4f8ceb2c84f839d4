/- One part of the texts on which the proof of a law rests: read the last one first. -/
import Derived.Test.YtagkgfmddflodaaGreatQ3
import Derived.Test.YtagkgfmddflodaaGreatProg
set_option linter.unusedVariables false
set_option linter.unusedSimpArgs false
set_option linter.unusedSectionVars false
set_option maxRecDepth 100000
namespace Go.Proofs.YtagkgfmddflodaaGreat
namespace bp
open Go Vc T
open bt (cQ aL aA bg aO aB Sl sv mE LL)
open dw (fl bx qG cZ cD idx bJ cO cH Td sY)
open mT (Ar AR words off cw F_)
open Trail (TI Tr St fR gj ij bW cR eY cL upto bZ dK Open jO ez VR AF)
structure Kr (base:Nat) (W:World) (nv:Nat) (s:Nat) (M:Nat->Prop) (T:TI) (lb bk:Nat):Prop where
 ar:AR M W s ⟨[],[]⟩
 mB:∀i,M i->base<=i
 tr:ez W T [] [] (List.replicate nv 0) (List.replicate nv (0,0))
 tB:∀i,T.F i->base<=i
 tL:∀i,T.F i->i<W.heap.size
 l:b_ W lb (List.replicate (2*nv) (.slice none 0 0)) 115
 kB:b_ W bk [.slice none 0 0] 114
 lB:base<=lb
 bB:base<=bk
 d1:∀i,M i->¬T.F i/\i≠lb/\i≠bk
 d2:∀i,T.F i->i≠lb/\i≠bk
 d3:lb≠bk
def zC (nv s:Nat) (T:TI) (lb bk:Nat):List Value:=[I nv,Pt s,Pt T.t,.slice none 0 0,.slice (some ⟨lb,0,none⟩) (2*nv) (2*nv),.slice none 0 0,.slice none 0 0,.iface 112 (Pt bk),I 0,.bool false,.bool false,.bool false,I 0]
def E0 (nv:Nat):ES:=⟨nv,⟨[],[]⟩,[],[],List.replicate (2*nv) [],[],[],[],[],0,false,false,false,0⟩
theorem rQ {i:Nat} : ¬ob none i:=λ⟨a,h,_⟩=>by cases h
theorem RC (nv:Nat):VR nv [] (List.replicate nv 0) (List.replicate nv (0,0)):=
 ⟨by simp,by simp,λv h1 h2=>by
  rw [Trail.Cr];show (List.replicate nv (0:Int)).getD (v - 1) 0=0;rw [List.getD_eq_getElem?_getD,List.getElem?_replicate];split<;>rfl,λe he=>by cases he⟩
theorem Kr.rp {base:Nat} {W:World} {nv s:Nat} {M:Nat->Prop} {T:TI} {lb bk b:Nat} (P:Kr base W nv s M T lb bk) (dS:nv<=1048576) (hB:b_ W b (zC nv s T lb bk) 120) (hb:base<=b) (hn:¬M b/\¬T.F b/\b≠lb/\b≠bk) :
  ∃o h,Rp dU W b o h (E0 nv)/\∀j,j<base->o j=-9:=by
 let o:Nat->Int:=λj=>open Classical in if j=b then -1 else if M j then -2 else if T.F j then -3 else if j=lb then -5 else if j=bk then -8 else -9;have oM:∀{i},M i->o i=-2:=λ{i} hi=>by
  show (open Classical in if i=b then (-1:Int) else if M i then -2 else _)=-2;rw [if_neg (λe:i=b=>hn.1 (e ▸ hi)),if_pos hi]
 have oT:∀{i},T.F i->o i=-3:=λ{i} hi=>by
  show (open Classical in if i=b then (-1:Int) else if M i then -2 else if T.F i then -3 else _)=-3;rw [if_neg (λe:i=b=>hn.2.1 (e ▸ hi)),if_neg λhm=>(P.d1 i hm).1 hi,if_pos hi]
 have oL:o lb=-5:=by
  show (open Classical in if lb=b then (-1:Int) else if M lb then -2 else if T.F lb then -3 else if lb=lb then -5 else _)=-5;rw [if_neg (Ne.symm hn.2.2.1),if_neg λhm=>(P.d1 _ hm).2.1 rfl,if_neg λhm=>(P.d2 _ hm).1 rfl,if_pos rfl]
 have oB:o bk=-8:=by
  show (open Classical in if bk=b then (-1:Int) else if M bk then -2 else if T.F bk then -3 else if bk=lb then -5 else if bk=bk then -8 else _)=-8;rw [if_neg (Ne.symm hn.2.2.2),if_neg λhm=>(P.d1 _ hm).2.2 rfl,if_neg λhm=>(P.d2 _ hm).2 rfl,if_neg (Ne.symm P.d3),if_pos rfl]
 have uk:=hB.lt;have pM:=P.l.lt;have alk:=P.kB.lt;have oN:∀j,(j<base\/W.heap.size<=j)->o j=-9:=λj hj=>by
  show (open Classical in if j=b then (-1:Int) else if M j then -2 else if T.F j then -3 else if j=lb then -5 else if j=bk then -8 else -9)=-9;have:=P.lB;have:=P.bB;rw [if_neg (by omega),if_neg λhm=>by have:=P.mB j hm; have:=P.ar.lt j hm; omega,if_neg λhm=>by have:=P.tB j hm; have:=P.tL j hm; omega,if_neg (by omega),if_neg (by omega)]
 refine ⟨o,⟨s,T,(none,0,0),(some ⟨lb,0,none⟩,2*nv,2*nv),List.replicate (2*nv) (none,0,0),(none,0,0),(none,0,0),bk,(none,0,0),[],λ_=>0,λ_=>(none,0,0)⟩,
  ⟨hB,if_pos rfl,jI P.ar (λi hi=>⟨oM hi,P.ar.lt i hi⟩) λi hi=>hi.2,⟨_,_,P.tr,.nil,RC nv⟩,λi hi=>oT hi,bR.nil _ _ _,λi hi=>absurd hi rQ,?_,λi hi=>?_,List.length_replicate,List.length_replicate,
   λi x ids hx hi _=>?_,λi x hx j hj=>?_,bR.nil _ _ _,λi hi=>absurd hi rQ,bR.nil _ _ _,λi hi=>absurd hi rQ,P.kB,oB,bR.nil _ _ _,λi hi=>absurd hi rQ,rfl,λi x y hx=>by simp [E0] at hx,λi d hd=>by simp [E0] at hd,λi j hi=>by simp [E0] at hi,λj hj=>oN j (Or.inr hj)⟩,λj hj=>oN j (Or.inl hj)⟩
 ·refine Or.inr ⟨lb,_,rfl,P.l,Nat.le_refl _,by simp only [maxLen]; omega,by simp,?_⟩;rw [List.map_replicate,Nat.mul_one,List.take_of_length_le (by simp)];rfl
 ·obtain ⟨a,ha,rfl⟩:=hi;cases ha;exact oL
 ·have jG:(List.replicate (2*nv) ((none,0,0):Sl))[i]?=some x:=hx;have cW:(List.replicate (2*nv) ([]:List Nat))[i]?=some ids:=hi;rw [List.getElem?_replicate] at jG cW;split at jG
  ·rw [if_pos (by assumption)] at cW;injection jG with jG; injection cW with cW;subst jG; subst cW;exact bR.nil _ _ _
  ·cases jG
 ·have jG:(List.replicate (2*nv) ((none,0,0):Sl))[i]?=some x:=hx;rw [List.getElem?_replicate] at jG;split at jG
  ·injection jG with jG;subst jG;exact absurd hj rQ
  ·cases jG
theorem ni0 {nv:Nat} (dS:nv<=1048576):NI (E0 nv) 0:=by
 have hl:∀{i:Nat} {ids:List Nat},(E0 nv).lists[i]?=some ids->ids=[]:=λ{i ids} hi=>by
  have cW:(List.replicate (2*nv) ([]:List Nat))[i]?=some ids:=hi;rw [List.getElem?_replicate] at cW;split at cW
  ·injection cW with cW; exact cW.symm
  ·cases cW
 exact ⟨⟨⟨dS,λk d hk=>by simp [E0] at hk,Nat.zero_le _,List.length_replicate,λi ids hi=>by rw [hl hi]; exact List.nodup_nil,λi k ids hi hk=>by rw [hl hi] at hk; cases hk⟩,(λk hk=>by cases hk),(λk hk=>by cases hk),Nat.zero_le _,Nat.zero_le _⟩,Nat.le_refl _,Nat.le_refl _,Nat.le_refl _,Nat.le_refl _⟩
theorem abr {base:Nat} {w W:World} {nv s:Nat} {M:Nat->Prop} {T:TI} {lb bk b2:Nat} (P:Kr base W nv s M T lb bk) (dS:nv<=1048576) (hk:af aq w W) (aon:w.heap.size<=base) {B:Nat->Prop} {p:Option Addr} {n c:Nat} {av:List (List Int)} (rN:W.cell? ⟨b2,1,none⟩=some (.slice p n c)) (hC:pP B w p n av) (hB:∀j,B j->j<w.heap.size)
  (hn:av.length<=1048576) (hl:∀es∈av,es.length<=1048576) (hw:∀es∈av,∀x∈es,Wi nv x) {R:Value->World->Prop}
  (hK:∀w' b o h,Rp dU w' b o h (jc nv av)->af aq w w'->(∀j,j<w.heap.size->o j=-9)->R (.tuple #[Pt b,I 0]) w'):cg W (zC nv s T lb bk) 120 λuD w7=>VM b2 uD w7 R:=by
 refine aD λb w7 hb mU k7=>?_;have z:=hk.size;have z7:=k7.size;have JG:=P.l.lt;have IB:=P.kB.lt;have hbs:base<=b:=by have:=P.lB; omega
 have P7:Kr base w7 nv s M T lb bk:=⟨P.ar.aa k7,P.mB,P.tr.ax k7 (λ_ _ h=>h),P.tB,λi hi=>by have:=P.tL i hi; omega,P.l.aa k7,P.kB.aa k7,P.lB,P.bB,P.d1,P.d2,P.d3⟩
 obtain ⟨o,h,hR,ho⟩:=P7.rp dS mU hbs ⟨λhm=>by have:=P.ar.lt b hm; omega,λhm=>by have:=P.tL b hm; omega,by omega,by omega⟩;have Tt:=hk.ak k7;refine alV hR (ni0 dS) (k7.cell rN λh=>h) (hC.ax Tt λ_ _ h=>h) (λj hj=>⟨ho j (by have:=hB j hj; omega),by have:=hB j hj; have:=Tt.size; omega⟩) hn hl hw λw' ⟨o',h',r',a',k'⟩=>?_;refine hK w' b o' h' r' ?_ λj hj=>?_
 ·exact Tt.trans k' λj hj hh=>(hh (ho j (by omega))).elim
 ·rw [a' j (by have:=Tt.size; omega)]; exact ho j (by omega)
end bp
namespace bp
open Go Vc T
open bt (cQ aL aA bg aO aB Sl sv mE LL)
open dw (fl bx qG cZ cD idx bJ cO cH Td sY)
open mT (Ar AR words off cw F_)
open Trail (TI Tr St fR gj ij bW cR eY cL upto bZ dK Open jO ez VR AF)
def abt (w:World) (nv:Int) (av:List (List Int)) (v:Value) (w':World):Prop:=
 (¬bD nv av/\v=.tuple #[.pointer none,I 1]/\af aq w w')\/
 (bD nv av/\∃b o h,v=.tuple #[Pt b,I 0]/\Rp dU w' b o h (jc nv.toNat av)/\af aq w w'/\∀j,j<w.heap.size->o j=-9)
theorem alZ {B:Nat->Prop} {w:World} {nv:Int} {p:Option Addr} {n c:Nat} {av:List (List Int)} (hC:pP B w p n av) (hB:∀j,B j->j<w.heap.size) (hn:av.length<=1048576) (hl:∀es∈av,es.length<=1048576) :
  Calls Tryz.prog 36 #[.agg #[I nv,.slice p n c]] w λe w'=>∃v,e=.returned v/\abt w nv av v w':=by
 refine Mm nv p n c w (abt w nv av) ?_;unfold V36;have g_:=hC.len;refine aD λb2 w1 rN bH k1=>?_;have z1:=k1.size;have c0:∀{V:World} {K:Int->Prop},af aq w1 V->K nv->aW .i64 V ((⟨b2,0,none⟩:Addr).add 0) K:=λ{V K} hk hK=>by
  rw [ag]; exact ah ((bH.aa hk).cell 0) hK
 have c1:aZ w1 ((⟨b2,0,none⟩:Addr).add 1)=aZ w1 ((⟨b2,0,none⟩:Addr).add 1):=rfl;refine c0 (af.refl _ _) (au (x:=p) (n:=n) (c:=c) (by rw [ag]; exact bH.cell 1) ?_);refine az O9 (qX (hC.aa k1) (by omega) λes oH=>by have:=hl es oH; omega) λe w2 ⟨r,he,hr,k2⟩=>⟨r,he,?_⟩
 have fF:=k1.ak k2;refine aF (λhq=>?_) λhq=>?_
 ·have hq:r=false:=by simpa using hq
  exact Or.inl ⟨(λhf=>by rw [hr.2 hf] at hq; cases hq),rfl,fF⟩
 have hq:r=true:=by simpa using hq
 have hF:=hr.1 hq;obtain ⟨hf0,E_,hfw⟩:=hF;obtain ⟨m,rfl⟩:=Int.eq_ofNat_of_zero_le hf0;refine c0 k2 ?_;refine az aiX (Trail.Pb (m:Int) w2) λe w3 ⟨v,he,k3,hv⟩=>?_;rcases hv with ⟨abu,_⟩ | ⟨_,T,hTF,rfl,hT⟩
 ·exact absurd ⟨hf0,E_⟩ abu
 rw [Int.toNat_natCast] at hT;have hTr:Tr m w3 T [] []:=⟨_,_,hT,.nil,RC m⟩
 refine ⟨_,_,he,?_⟩;have Ks:af aq w3 w3.drew:=(af.refl _ _).drew;have k3d:=k3.ak Ks;have z2:=k2.size;have z3:=k3.size;have z3d:w3.drew.heap.size=w3.heap.size:=rfl;have uI:=k2.ak k3d;have oF:=k1.ak uI;refine c0 uI (c0 uI ?_);have ew:IntKind.wrap .i64 (2*(m:Int))=2*(m:Int):=by rw [IntKind.wrap_i64]; omega
 rw [ew];have etn:(2*(m:Int)).toNat=2*m:=by omega
 -- yf al0 list made
 have mkL:∀(W:World) {K:Option Addr->Nat->Nat->World->Prop},(∀lb W',lb=W.heap.size->b_ W' lb (List.replicate (2*m) (.slice none 0 0)) 115->af aq W W'->K (some ⟨lb,0,none⟩) (2*m) (2*m) W')->
   ∃(p:Option Addr) (l' c:Nat),∃w':World,(Instr.makeSlice 111 (.int .i64 (2*(m:Int))) (.int .i64 (2*(m:Int)))).run Tryz.prog W=.ok (.slice p l' c) w'/\K p l' c w':=λW {K} hK=>by
  refine dw.tU (B:=24) (z:=.slice none 0 0) Tryz.underlying111 (by kernel_rfl) rfl (by omega) (by omega) (by omega) (by omega) λlb W' JG nj kl=>?_;rw [etn] at nj ⊢;exact hK lb W' JG nj kl
 -- yf end
 have fin:∀{W:World} {s:Nat} {M:Nat->Prop} {lb bk m0 m1:Nat},AR M W s ⟨[],[]⟩->(∀i,M i->m0<=i/\i<m1)->w3.heap.size<=m0->b_ W lb (List.replicate (2*m) (.slice none 0 0)) 115->b_ W bk [.slice none 0 0] 114->(lb<m0\/m1<=lb)->(bk<m0\/m1<=bk)->lb≠bk->w3.heap.size<=lb->w3.heap.size<=bk->af aq w3 W->
   cg W (zC m s T lb bk) 120 λuD w7=>VM b2 uD w7 (abt w (m:Int) av):=by
  intro W s M lb bk m0 m1 hA hM VG nj IE h1 h2 h3 h4 h5 kW;have zW:=kW.size;have aM:∀i,T.F i->w2.heap.size<=i/\i<w3.heap.size:=λi hi=>⟨hTF i hi,hTr.lt i hi⟩
  have bI:af aq w W:=((k1.ak k2).ak k3).ak kW;have kb:af aq w1 W:=(k2.ak k3).ak kW;refine abr (base:=w.heap.size) (w:=w) (M:=M) (T:=T) ⟨hA,λi hi=>by have:=(hM i hi).1; omega,hT.ax kW (λ_ _ h=>h),λi hi=>by have:=(aM i hi).1; omega,λi hi=>by have:=(aM i hi).2; omega,nj,IE,by omega,by omega,λi hi=>⟨λht=>?_,?_,?_⟩,λi hi=>⟨?_,?_⟩,h3⟩ (by omega) bI (Nat.le_refl _) (p:=p) (n:=n) (c:=c) ((bH.aa kb).cell 1) hC hB hn hl hfw λw' b o h hR hk ho=>?_
  ·have:=(hM i hi).1; have:=(aM i ht).2; omega
  ·have:=hM i hi; omega
  ·have:=hM i hi; omega
  ·have:=(aM i hi).2; omega
  ·have:=(aM i hi).2; omega
  ·exact Or.inr ⟨⟨hf0,E_,hfw⟩,b,o,h,rfl,hR,hk,ho⟩
 refine ⟨?_,?_,?_⟩
 ·refine az Pq (mT.Ej _) λe w4 ⟨s,M,he,hA,hM,k4⟩=>⟨_,he,?_⟩
  have Tu:=hA.lt;have z4:=k4.size;have oA:=uI.ak k4;refine ⟨c0 oA rfl,c0 oA rfl,?_,?_⟩
  ·refine mkL _ λlb w5 JG nj k5=>?_;have z5:=k5.size;have pK:=oA.ak k5;have pM:=nj.lt;refine ⟨c0 pK rfl,aD λbk w6 IB IE k6=>?_⟩;have uW:=pK.ak k6;refine ⟨c0 uW rfl,c0 uW rfl,?_⟩;exact fin ((hA.aa k5).aa k6) (λi hi=>⟨hM i hi,Tu i hi⟩) (by omega) (nj.aa k6) IE (by omega) (by omega) (by omega) (by omega) (by omega) (((Ks.ak k4).ak k5).ak k6)
  ·refine aD λbk w5 IB IE k5=>?_;have z5:=k5.size;have pK:=oA.ak k5;have pM:=IE.lt;refine ⟨c0 pK rfl,c0 pK rfl,mkL _ λlb w6 JG nj k6=>?_⟩;have uW:=pK.ak k6;refine ⟨c0 uW rfl,?_⟩;exact fin ((hA.aa k5).aa k6) (λi hi=>⟨hM i hi,Tu i hi⟩) (by omega) nj (IE.aa k6) (by omega) (by omega) (by omega) (by omega) (by omega) (((Ks.ak k4).ak k5).ak k6)
 ·refine mkL _ λlb w4 JG nj k4=>?_;have z4:=k4.size;have oA:=uI.ak k4;have pM:=nj.lt;refine ⟨c0 oA rfl,?_,?_⟩
  ·refine az Pq (mT.Ej _) λe w5 ⟨s,M,he,hA,hM,k5⟩=>⟨_,he,?_⟩
   have Tu:=hA.lt;have z5:=k5.size;have pK:=oA.ak k5;refine ⟨c0 pK rfl,c0 pK rfl,aD λbk w6 IB IE k6=>?_⟩;have uW:=pK.ak k6;refine ⟨c0 uW rfl,c0 uW rfl,?_⟩;exact fin (hA.aa k6) (λi hi=>⟨hM i hi,Tu i hi⟩) (by omega) ((nj.aa k5).aa k6) IE (by omega) (by omega) (by omega) (by omega) (by omega) (((Ks.ak k4).ak k5).ak k6)
  ·refine aD λbk w5 IB IE k5=>?_;have z5:=k5.size;have pK:=oA.ak k5;have uk:=IE.lt;refine ⟨c0 pK rfl,c0 pK rfl,?_⟩;refine az Pq (mT.Ej _) λe w6 ⟨s,M,he,hA,hM,k6⟩=>⟨_,he,?_⟩
   have Tu:=hA.lt;have z6:=k6.size;have uW:=pK.ak k6;refine ⟨c0 uW rfl,c0 uW rfl,?_⟩;exact fin hA (λi hi=>⟨hM i hi,Tu i hi⟩) (by omega) ((nj.aa k5).aa k6) (IE.aa k6) (by omega) (by omega) (by omega) (by omega) (by omega) (((Ks.ak k4).ak k5).ak k6)
 ·refine aD λbk w4 IB IE k4=>?_;have z4:=k4.size;have oA:=uI.ak k4;have uk:=IE.lt;refine ⟨c0 oA rfl,c0 oA rfl,?_,?_⟩
  ·refine az Pq (mT.Ej _) λe w5 ⟨s,M,he,hA,hM,k5⟩=>⟨_,he,?_⟩
   have Tu:=hA.lt;have z5:=k5.size;have pK:=oA.ak k5;refine ⟨c0 pK rfl,c0 pK rfl,mkL _ λlb w6 JG nj k6=>?_⟩;have uW:=pK.ak k6;refine ⟨c0 uW rfl,?_⟩;exact fin (hA.aa k6) (λi hi=>⟨hM i hi,Tu i hi⟩) (by omega) nj ((IE.aa k5).aa k6) (by omega) (by omega) (by omega) (by omega) (by omega) (((Ks.ak k4).ak k5).ak k6)
  ·refine mkL _ λlb w5 JG nj k5=>?_;have z5:=k5.size;have pK:=oA.ak k5;have pM:=nj.lt;refine ⟨c0 pK rfl,?_⟩;refine az Pq (mT.Ej _) λe w6 ⟨s,M,he,hA,hM,k6⟩=>⟨_,he,?_⟩
   have Tu:=hA.lt;have z6:=k6.size;have uW:=pK.ak k6;refine ⟨c0 uW rfl,c0 uW rfl,?_⟩;exact fin hA (λi hi=>⟨hM i hi,Tu i hi⟩) (by omega) (nj.aa k6) ((IE.aa k5).aa k6) (by omega) (by omega) (by omega) (by omega) (by omega) (((Ks.ak k4).ak k5).ak k6)
end bp
namespace bp
open Go Vc T
open bt (cQ aL aA bg aO aB Sl sv mE LL)
open dw (fl bx qG cZ cD idx bJ cO cH Td sY)
open Trail (TI Tr St fR gj ij bW cR eY cL upto bZ dK Open jO)
def kJ (S:ES):Prop:=St S.nv S.R S.L
structure WF (S:ES):Prop extends WfS S where
 st:kJ S
theorem RD {S:ES} (h:kJ S) {l r:Int} (hl:Wi S.nv l) (h0:vl S l=0) (hr:0<=r):kJ (kA S l r):=by
 have hf:=uO hl h0;obtain ⟨ho,yD⟩:=Trail.gz hf;exact St.mA h ho yD hr
theorem BF {S:ES} (h:kJ S) {d:Hd} (hd:∀x∈d.ls,Wi S.nv x) (yx:0<=d.at_):kJ (single S d).1:=by
 unfold single;split
 ·rename_i l hf;have h1:=List.mem_of_find?_eq_some hf;have h2:=List.find?_some hf;simp only [decide_eq_true_eq] at h2;split
  ·exact h
  ·rename_i hn;exact RD h (hd l h1) (by rcases jU S l with e | e | e<;>omega) yx
 ·exact h
theorem Fa {l:Int} {S:ES} {k:Nat} {todo stay:List Nat} {ok:Bool} (h:VI l S (k :: todo) stay) (hs:kJ S):kJ (cv l (S,stay,ok) k).1:=by
 obtain ⟨d,hd,h0,h1,bz,hw⟩:=h.td k (by simp);obtain ⟨QC,_,_,yx⟩:=h.wf.hl k d hd;have F1:Wi S.nv (other d l):=by
  obtain ⟨o1,_⟩:=lH hw bz;rcases o1 with o1 | o1<;>rw [o1]
  ·exact QC _ h0
  ·exact QC _ h1
 unfold cv;dsimp only;rw [hd];dsimp only;split
 ·exact hs
 ·split
  ·exact hs
  ·split
   ·exact hs
   ·split
    ·exact hs
    ·split
     ·rename_i he; exact RD hs F1 he yx
     ·exact hs
theorem CU {l:Int} : ∀(todo:List Nat) (S:ES) (stay:List Nat) (ok:Bool),VI l S todo stay->kJ S->kJ (todo.foldl (cv l) (S,stay,ok)).1
 | [],S,stay,ok,h,hs=>hs
 | k :: todo,S,stay,ok,h,hs=>CU todo _ _ (cv l (S,stay,ok) k).2.2 h.step (Fa h hs)
theorem u_ {S:ES} (h:WfE S) (hs:kJ S) {l:Int} (hl:Wi S.nv l):kJ (visit S l).1:=CU (ck S (bn l)) {S with lists:=S.lists.set (bn l) []} [] true (VI.start h hl) hs
theorem kK:∀(ids:List Nat) (acc:ES×Bool),WfE acc.1->kJ acc.1->WfE (ids.foldl dz acc).1/\kJ (ids.foldl dz acc).1
 | [],acc,hw,hs=>⟨hw,hs⟩
 | k :: ids,acc,hw,hs=>by
  refine kK ids _ (hw.dz k) ?_;unfold dz;split
  ·exact hs
  ·split
   ·exact hs
   ·rename_i d hd;obtain ⟨a,_,_,b⟩:=hw.hl k d hd;exact BF hs a b
theorem mI:∀(n:Nat) (S:ES),WfE S->kJ S->WfE (bu n S).1/\kJ (bu n S).1/\Fr {S with head:=(bu n S).1.head} (bu n S).1
 | 0,S,hw,hs=>⟨hw,hs,Fr.refl _⟩
 | n+1,S,hw,hs=>by
  unfold bu;cases he:S.R[S.head]? with
  | none=>exact ⟨hw,hs,Fr.refl _⟩
  | some e=>
   dsimp only;have sH:Wi S.nv e.lit:=gN (hs.own e (List.mem_of_getElem? he));have vF:=hw.self (S.head+1) S.rest S.aQ S.dead S.bad;have v1:=vF.visit (l:=-e.lit) (jC sH);have v2:=u_ (S:={S with head:=S.head+1}) vF hs (l:=-e.lit) (jC sH);have v3:=uS {S with head:=S.head+1} (-e.lit);have v4:Fr {S with head:=(visit {S with head:=S.head+1} (-e.lit)).1.head} (visit {S with head:=S.head+1} (-e.lit)).1:={v3 with head:=rfl}
   split
   ·obtain ⟨a,b,c⟩:=mI n _ v1 v2;refine ⟨a,b,?_⟩;refine Fr.trans (S1:={(visit {S with head:=S.head+1} (-e.lit)).1 with head:=(bu n (visit {S with head:=S.head+1} (-e.lit)).1).1.head}) ?_ c;exact {v3 with head:=rfl}
   ·exact ⟨v1,v2,v4⟩
theorem WF.spread {S:ES} (h:WF S):WF (spread S).1:=by
 unfold bp.spread;split
 ·exact h
 dsimp only;have BC:WfE (aV S).1/\kJ (aV S).1/\Fr S (aV S).1:=by
  unfold aV;split
  ·have:=kK S.short (S,true) h.toWfE h.st;exact ⟨this.1,this.2,nM S.short (S,true)⟩
  ·exact ⟨h.toWfE,h.st,Fr.refl _⟩
 obtain ⟨a,b,c⟩:=BC;have h1:∀{S1:ES},WfE S1->kJ S1->Fr {S with head:=S1.head} S1->∀(r cl:Bool),WF {S1 with rest:=r,aQ:=cl}:=λ{S1} hw hs hf r cl=>
  ⟨⟨⟨hw.nv,hw.hl,hw.cl,hw.ll,hw.nd,hw.w1⟩,by show ∀k∈S1.short,k<S1.H.length; rw [hf.short,hf.hlen]; exact h.sh,by show ∀k∈S1.aC,k<S1.H.length; rw [hf.aC,hf.hlen]; exact h.le,by show S1.short.length<=_; rw [hf.short]; exact h.shl,by show S1.aC.length<=_; rw [hf.aC]; exact h.HY⟩,hs⟩
 split
 ·obtain ⟨d,e,f⟩:=mI S.nv (aV S).1 a b;refine h1 d e ?_ _ _;refine Fr.trans (S1:={(aV S).1 with head:=(bu S.nv (aV S).1).1.head}) ?_ f;exact {c with head:=rfl}
 ·exact h1 a b {c with head:=rfl} _ _
theorem WF.dec {S:ES} (h:WF S) (l:Int):WF (dG S l):=by
 unfold dG;split
 ·rename_i hd;refine ⟨⟨⟨h.nv,h.hl,h.cl,h.ll,h.nd,h.w1⟩,h.sh,h.le,h.shl,h.HY⟩,?_⟩;unfold iH at hd;split at hd
  ·cases hd
  ·rename_i hf;have hf:=Classical.not_not.1 hf;split at hd
   ·cases hd
   ·split at hd
    ·cases hd
    ·rename_i hv;have hv:vl S l=0:=by omega
     obtain ⟨ho,yD⟩:=Trail.gz (uO (XM hf.1 hf.2) hv);exact St.decide h.st ho yD
 ·exact h
end bp
namespace bp
open Go Vc T
open bt (cQ aL aA bg aO aB Sl sv mE LL)
open dw (fl bx qG cZ cD idx bJ cO cH Td sY)
open mT (Ar AR words off cw F_)
open Trail (TI Tr St fR gj ij bW cR eY cL upto bZ dK Open jO)
open bU (En mF jt qM shr qT qN)
theorem Fb (S:ES) (c:List Int):(cG S c).R=S.R/\(cG S c).L=S.L/\(cG S c).aC=S.aC/\(cG S c).log=S.log/\(cG S c).head=S.head/\(cG S c).rest=S.rest/\(cG S c).aQ=S.aQ/\(cG S c).dead=S.dead:=by
 unfold cG;split
 ·exact ⟨rfl,rfl,rfl,rfl,rfl,rfl,rfl,rfl⟩
 ·split<;>exact ⟨rfl,rfl,rfl,rfl,rfl,rfl,rfl,rfl⟩
theorem oI {nv:Nat} (dS:nv<=1048576) {av:List (List Int)} (hn:av.length<=1048576) (hl:∀es∈av,es.length<=1048576) (hw:∀es∈av,∀x∈es,Wi nv x) :
  NI (jc nv av) av.length/\(jc nv av).nv=nv/\(jc nv av).R=[]/\(jc nv av).L=[]/\(jc nv av).aC=[]/\(jc nv av).log=[]/\(jc nv av).head=0/\(jc nv av).rest=false/\(jc nv av).aQ=false/\(jc nv av).dead=false:=by
 have key:∀i,i<=av.length->NI ((av.take i).foldl cG (E0 nv)) i/\((av.take i).foldl cG (E0 nv)).nv=nv/\((av.take i).foldl cG (E0 nv)).R=[]/\((av.take i).foldl cG (E0 nv)).L=[]/\((av.take i).foldl cG (E0 nv)).aC=[]/\((av.take i).foldl cG (E0 nv)).log=[]/\((av.take i).foldl cG (E0 nv)).head=0/\((av.take i).foldl cG (E0 nv)).rest=false/\((av.take i).foldl cG (E0 nv)).aQ=false/\((av.take i).foldl cG (E0 nv)).dead=false:=λi=>by
  induction i with
  | zero=>exact λ_=>⟨ni0 dS,rfl,rfl,rfl,rfl,rfl,rfl,rfl,rfl,rfl⟩
  | succ i ih=>
   intro hi;obtain ⟨h1,h2,h3,h4,h5,h6,h7,h8,h9,h10⟩:=ih (by omega);obtain ⟨es,oH⟩:=bg (show i<av.length by omega);have pq:=List.mem_of_getElem? oH;rw [cm oH,List.foldl_append];obtain ⟨r1,r2,r3,r4,r5,r6,r7,r8⟩:=Fb ((av.take i).foldl cG (E0 nv)) es;obtain ⟨_,r0,_,_⟩:=rP ((av.take i).foldl cG (E0 nv)) es;exact ⟨h1.step (by rw [h2]; exact hw es pq) (hl es pq) (by omega),r0.trans h2,r1.trans h3,r2.trans h4,r3.trans h5,r4.trans h6,r5.trans h7,r6.trans h8,r7.trans h9,r8.trans h10⟩
 have:=key av.length (Nat.le_refl _);rw [List.take_length] at this;exact this
theorem VP {nv:Nat} (dS:nv<=1048576) {av:List (List Int)} (hn:av.length<=1048576) (hl:∀es∈av,es.length<=1048576) (hw:∀es∈av,∀x∈es,Wi nv x):WF (jc nv av):=by
 obtain ⟨h1,h2,h3,h4,_⟩:=oI dS hn hl hw;refine ⟨h1.wf,?_⟩;unfold kJ;rw [h3,h4];exact .nil
theorem VQ {n:Nat} {R:List E} {L:List Int} (h:St n R L) {k:Int} (qD:0<=k) (hk:k<=L.length):St n (upto k R) (L.take k.toNat):=by
 obtain ⟨m,rfl⟩:∃m:Nat,k=m:=⟨k.toNat,by omega⟩
 rw [Int.toNat_natCast];by_cases hm:m<L.length
 ·obtain ⟨fr,e1,e2,s1,s2,s3⟩:=h.back m _ (List.getElem?_eq_getElem hm);obtain ⟨a1,a2⟩:=Trail.ow s2 s3;rw [a2]; exact s1
 ·obtain rfl:m=L.length:=by omega
  obtain ⟨a1,a2⟩:=Trail.rH h (Int.le_refl _);rw [a2,List.take_length]; exact h
theorem WF.cut {S:ES} (h:WF S) {k:Int} (qD:0<=k) (hk:k<=S.L.length):WF (fE S k):=
 ⟨⟨⟨h.nv,h.hl,h.cl,h.ll,h.nd,h.w1⟩,h.sh,h.le,h.shl,h.HY⟩,VQ h.st qD hk⟩
theorem WF.self {S:ES} (h:WF S) (hd:Nat) (r c d:Bool) (x:Int):WF {S with head:=hd,rest:=r,aQ:=c,dead:=d,bad:=x}:=
 ⟨⟨⟨h.nv,h.hl,h.cl,h.ll,h.nd,h.w1⟩,h.sh,h.le,h.shl,h.HY⟩,h.st⟩
theorem WF.note {S:ES} (h:WF S) (dr:Bool) (cs:List Int):WF (tw S dr cs):=⟨⟨⟨h.nv,h.hl,h.cl,h.ll,h.nd,h.w1⟩,h.sh,h.le,h.shl,h.HY⟩,h.st⟩
theorem WF.gE {S:ES} (h:WF S) {back:Int} {s:List Int} (g_:S.H.length+1<=8796093022208) (hle:S.aC.length+1<=8796093022208) (bz:s≠[]) (hw:∀x∈s,Wi S.nv x) (pS:s.Nodup) (sr:s.length<=2097153) (wC:0<=back) (uk:back<=S.L.length) (hf:bZ S.nv (upto back S.R) (s.headD 0)=0):WF (cU S back s):=by
 have yx:0<=xy S:=by unfold xy; omega
 have hN:(∀x∈(dA S s).ls,Wi S.nv x)/\(dA S s).ls.Nodup/\(dA S s).ls.length<=2097153/\0<=(dA S s).at_:=⟨hw,pS,sr,yx⟩
 have h1:WfS (eU (tw {S with aQ:=false} false s) s):=⟨⟨h.nv,h.hl,h.cl,h.ll,h.nd,h.w1⟩,h.sh,h.le,h.shl,h.HY⟩
 have h2:=WfS.Yd (S:=eU (tw {S with aQ:=false} false s) s) (d:=dA S s) h1 hN g_;have hlen:(S.H++[dA S s]).length=S.H.length+1:=by rw [List.length_append]; rfl
 have h3:WfS (pz S s):=⟨⟨h2.nv,h2.hl,h2.cl,h2.ll,h2.nd,h2.w1⟩,h2.sh,λj hj=>by
  rcases List.mem_append.1 hj with hj | hj
  ·exact h2.le j hj
  ·rw [List.mem_singleton.1 hj]; show S.H.length<(S.H++[dA S s]).length; omega,h2.shl,by show (S.aC++[S.H.length]).length<=_; rw [List.length_append]; exact hle⟩
 have h4:WfS (aY S s):=by
  unfold aY;split
  ·rename_i hl;have xI:∃x y zs,s=x :: y :: zs:=by
    cases s with
    | nil=>exact absurd rfl bz
    | cons x xs=>cases xs with
     | nil=>simp at hl
     | cons y zs=>exact ⟨x,y,zs,rfl⟩
   obtain ⟨x,y,zs,rfl⟩:=xI;have hm:nQ S (y :: zs)∈y :: zs:=qW S (by simp);refine h3.watch (k:=S.H.length) (d:=dA S (x :: y :: zs)) (by show (S.H++[_])[S.H.length]?=_; rw [List.getElem?_append_right (Nat.le_refl _),Nat.sub_self]; rfl) (λi ids hi hk=>by have:=h.lt1 hi hk; omega) (by show x∈_; simp [dA]) (List.mem_cons_of_mem _ hm) ?_;show x≠nQ S (y :: zs);rw [List.nodup_cons] at pS;intro e;exact pS.1 (by rw [e]; exact hm)
  ·exact h3
 have q:(aY S s).R=S.R/\(aY S s).L=S.L/\(aY S s).nv=S.nv:=by
  unfold aY; split<;>exact ⟨rfl,rfl,rfl⟩
 have h5:WF (aY S s):=⟨h4,by unfold kJ; rw [q.1,q.2.1,q.2.2]; exact h.st⟩
 have h6:=h5.cut wC (by rw [q.2.1]; exact uk);obtain ⟨ho,yD⟩:=Trail.gz hf;refine ⟨⟨⟨h6.nv,h6.hl,h6.cl,h6.ll,h6.nd,h6.w1⟩,h6.sh,h6.le,h6.shl,h6.HY⟩,?_⟩;have DQ:bW (fE (aY S s) back).nv (s.headD 0)=true:=by show bW (aY S s).nv _=true; rw [q.2.2]; exact ho
 have al1:Trail.Open (fE (aY S s) back).R (s.headD 0):=by show Trail.Open (upto back (aY S s).R) _; rw [q.1]; exact yD
 exact St.mA h6.st DQ al1 yx
theorem WF.forget {S:ES} (h:WF S) (i:Int):WF (forget S i).2:=by
 unfold bp.forget;split
 ·exact h
 ·split
  ·exact h
  ·split
   ·exact h
   ·rename_i k hk;split
    ·exact h
    ·rename_i d hd;split
     ·exact h
     ·have pX:=(List.getElem?_eq_some_iff.1 hd).1;have hH:∀(j:Nat),(S.H.set k {d with gone:=true})[j]?=if k=j then some {d with gone:=true} else S.H[j]?:=λj=>by
       rw [List.getElem?_set];by_cases f_:k=j
       ·rw [if_pos f_,if_pos pX,if_pos f_]
       ·rw [if_neg f_,if_neg f_]
      refine ⟨⟨⟨h.nv,λj d' hj=>?_,by show (S.H.set k _).length<=_; rw [List.length_set]; exact h.cl,h.ll,h.nd,λa j ids ha hj=>?_⟩,λj hj=>by show j<(S.H.set k _).length; rw [List.length_set]; exact h.sh j hj,λj hj=>by show j<(S.H.set k _).length; rw [List.length_set]; exact h.le j (List.mem_of_mem_eraseIdx hj),h.shl,?_⟩,h.st⟩
      ·have lW:(S.H.set k {d with gone:=true})[j]?=some d':=hj;rw [hH] at lW;split at lW
       ·injection lW with lW; rw [<-lW]; exact h.hl k d hd
       ·exact h.hl j d' lW
      ·obtain ⟨d1,tg,r⟩:=h.w1 a j ids ha hj;show ∃d2,(S.H.set k {d with gone:=true})[j]?=some d2/\d2.e0∈d2.ls/\d2.e1∈d2.ls/\d2.e0≠d2.e1/\(a=bn d2.e0\/a=bn d2.e1);rw [hH];by_cases f_:k=j
       ·subst f_;rw [hd] at tg; injection tg with tg; subst tg;exact ⟨_,if_pos rfl,r⟩
       ·exact ⟨d1,by rw [if_neg f_]; exact tg,r⟩
      ·show (S.aC.eraseIdx _).length<=_;have h1:(S.aC.eraseIdx i.toNat).length<=S.aC.length:=(List.eraseIdx_sublist _ _).length_le;exact Nat.le_trans h1 h.HY
end bp
namespace bp
open Go Vc T
open bt (cQ aL aA bg aO aB Sl sv mE LL)
open dw (fl bx qG cZ cD idx bJ cO cH Td sY)
def CV (S:ES) (i:Nat):Bool:=decide (0<vl S ((i:Int)+1))
theorem nS (S:ES):fJ S=if S.rest=false\/S.R.length<S.nv then none else some ((List.range S.nv).map (CV S)):=rfl
theorem VS {ex:Nat->Prop} {w:World} {b:Nat} {o:Nat->Int} {h:Hs} {S:ES} (hR:Rp ex w b o h S) :
  Calls Tryz.prog 77 #[Pt b] w λe w'=>(fJ S=none/\e=.returned (.tuple #[.slice none 0 0,.bool false])/\af aq w w')\/
   ∃m p c,fJ S=some m/\m.length=S.nv/\e=.returned (.tuple #[.slice p S.nv c,.bool true])/\bR w' 4 1 p S.nv c (m.map Value.bool)/\(∀i,ob p i->w.heap.size<=i)/\af aq w w':=by
 refine (Mw (some ⟨b,0,none⟩) w (λv w'=>(fJ S=none/\v=.tuple #[.slice none 0 0,.bool false]/\af aq w w')\/
   ∃m p c,fJ S=some m/\m.length=S.nv/\v=.tuple #[.slice p S.nv c,.bool true]/\bR w' 4 1 p S.nv c (m.map Value.bool)/\(∀i,ob p i->w.heap.size<=i)/\af aq w w') ?_).mono λe w' ⟨v,he,hk⟩=>?_
 rotate_left
 ·rcases hk with ⟨a,hv,k⟩ | ⟨m,p,c,a,a2,hv,k⟩
  ·exact Or.inl ⟨a,by rw [he,hv],k⟩
  ·exact Or.inr ⟨m,p,c,a,a2,by rw [he,hv],k⟩
 unfold V77;have kd:af aq w w.drew:=(af.refl _ _).drew;have dm:=hR.aa kd;have dS:=hR.nv;have AS:=aO hR.oo;rw [List.length_map] at AS;have zd:w.drew.heap.size=w.heap.size:=rfl;refine ay (dX (x:=S.rest) (by rw [ag]; exact dm.self.cell 9) ?_);cases hr:S.rest with
 | false=>
  exact a_ rfl (a_ rfl (a_ rfl (a_ rfl (aX rfl (Or.inl ⟨by rw [nS,if_pos (Or.inl hr)],rfl,kd⟩)))))
 | true=>
  refine aS rfl (ay (aS rfl (au (x:=h.oo.1) (n:=h.oo.2.1) (c:=h.oo.2.2) (by rw [ag]; exact dm.self.cell 3) (aS rfl (ay (aS rfl (ah (x:=S.nv) (by rw [ag]; exact dm.self.cell 0) ?_)))))));by_cases aM:S.R.length<S.nv
  ·refine aX (by show cond false true (decide ((h.oo.2.1:Int)<(S.nv:Int)))=true; rw [decide_eq_true (by omega)]; rfl) (Or.inl ⟨by rw [nS,if_pos (Or.inr aM)],rfl,kd⟩)
  refine aT (by show cond false true (decide ((h.oo.2.1:Int)<(S.nv:Int)))=false; rw [decide_eq_false (by omega)]; rfl) ?_;have em:fJ S=some ((List.range S.nv).map (CV S)):=by rw [nS,if_neg (by rw [hr]; intro hh; rcases hh with hh | hh; cases hh; omega)]
  refine ay (ah (x:=S.nv) (by rw [ag]; exact dm.self.cell 0) ?_);refine dw.tU (B:=1) (z:=.bool false) Tryz.underlying30 (by kernel_rfl) rfl (by omega) (by omega) (by omega) (by omega) λmb w1 hmb hBm k1=>?_;rw [Int.toNat_natCast] at hBm ⊢;have z1:=k1.size;have hO0:bR w1 4 1 (some ⟨mb,0,none⟩) S.nv S.nv (((List.range 0).map λi=>Value.bool (CV S i))++List.replicate (S.nv - 0) (.bool false)):=Or.inr ⟨mb,_,rfl,hBm,Nat.le_refl _,by simp only [maxLen]; omega,by simp,by
   rw [Nat.mul_one,List.take_of_length_le (by simp)]; simp⟩
  refine bX (λs W=>∃i:Nat,s.1=(i:Int)/\i<=S.nv/\bR W 4 1 (some ⟨mb,0,none⟩) S.nv S.nv (((List.range i).map λi=>Value.bool (CV S i))++List.replicate (S.nv - i) (.bool false))/\af aq w W) (λs _=>(S.nv - s.1).toNat) ⟨0,rfl,Nat.zero_le _,hO0,kd.ak k1⟩ ?_;rintro ⟨i',⟨⟩⟩ W ⟨i,rfl,hi,hO,kW⟩;dsimp only;refine aF (λhq=>?_) λhq=>?_
  ·have hq:i<S.nv:=by simpa using hq
   rw [aA i (by omega)];have pV:=hR.aa kW;refine pV.uM (pV.val (by omega) λw3 k3=>⟨_,rfl,?_⟩);have F9:=hO.aa k3;refine F9.ix (by omega) (by omega) λbq CH=>?_;cases CH;rw [Int.toNat_natCast,Nat.mul_one,ag,Nat.add_zero];refine F9.st (by omega) rfl λw4 uA k4 z4=>⟨⟨i+1,rfl,hq,?_,?_⟩,by omega⟩
   ·have e1:((i+1:Nat):Int)=(i:Int)+1:=by omega
    rw [e1] at uA;have e2:((((List.range i).map λi=>Value.bool (CV S i))++List.replicate (S.nv - i) (Value.bool false)).set i (Value.bool (decide (vl S ((i:Int)+1)>0))))=((List.range (i+1)).map λi=>Value.bool (CV S i))++List.replicate (S.nv - (i+1)) (Value.bool false):=by
     rw [List.set_append_right _ _ (by simp),List.length_map,List.length_range,Nat.sub_self,List.range_succ,List.map_append,List.append_assoc];congr 1;rw [show S.nv - i=(S.nv - (i+1))+1 by omega,List.replicate_succ];rfl
    rw [e2] at uA;exact uA
   ·exact (kW.ak k3).trans k4 λj hj hh=>by
     have:j=mb:=hh;omega
  ·have hq:i=S.nv:=by
    have:¬i<S.nv:=by simpa using hq
    omega
   subst hq;rw [Nat.sub_self,List.replicate_zero,List.append_nil] at hO;refine Or.inr ⟨(List.range S.nv).map (CV S),_,_,em,by simp,rfl,by rw [List.map_map]; exact hO,λi ⟨a,ha,hb⟩=>by cases ha; have:mb=i:=hb; omega,kW⟩
end bp
namespace bp
open Go Vc T
open Trail (TI Tr St fR gj ij bW cR eY cL upto bZ dK jO)
theorem IF {S:ES} {x:Int} (h:vl S x=1):∃e∈S.R,e.lit=x:=by
 unfold vl fR at h;split at h
 ·split at h
  ·rename_i e he;split at h
   ·rename_i hx; exact ⟨e,(Trail.qz he).2,hx⟩
   ·cases h
  ·cases h
 ·cases h
theorem zD {S:ES} {x:Int} (h:vl S x=-1):∃e∈S.R,e.lit=-x:=by
 unfold vl fR at h;split at h
 ·split at h
  ·rename_i e he;split at h
   ·cases h
   ·rename_i hx;have:=Trail.qz he;exact ⟨e,this.2,by have:=this.1; omega⟩
  ·cases h
 ·cases h
theorem zF {S:ES} (hs:kJ S) {e:E} (he:e∈S.R):vl S e.lit=1/\vl S (-e.lit)=-1:=by
 have ho:=hs.own e he;have hw:=gN ho;have hn:=yz hs he;refine ⟨?_,?_⟩
 ·unfold vl fR;rw [if_pos ho,hn];exact if_pos rfl
 ·unfold vl fR;rw [if_pos (CF (jC hw)),Int.natAbs_neg,hn];exact if_neg (by have:=hw.1; omega)
def Yh (S:ES) (d:Hd) (l:Int):Prop:=l∈d.ls/\∀x∈d.ls,x≠l->∃e∈S.R,e.lit=-x
theorem BG {S:ES} {d:Hd} {l:Int} (h:goal S d l=none) (h0:¬0<vl S (other d l)) {x:Int} (hx:x∈d.ls) (h1:x≠other d l) (h2:x≠l):vl S x=-1:=by
 unfold goal at h;rw [if_neg h0,List.find?_eq_none] at h;have:=h x hx;simp only [Bool.and_eq_true,decide_eq_true_eq,not_and] at this;have:=this h1 h2;rcases jU S x with e | e | e<;>omega
theorem VT {S:ES} {d:Hd} {l:Int} (hg:goal S d l=none) (h0:vl S (other d l)=0) (ho:other d l∈d.ls) (hl:∃e∈S.R,e.lit=-l):Yh S d (other d l):=
 ⟨ho,λx hx bz=>by
  by_cases D8:x=l
  ·rw [D8]; exact hl
  ·exact zD (BG hg (by omega) hx bz D8)⟩
theorem RE {S:ES} {d:Hd} {l:Int} (hg:goal S d l=none) (h0:vl S (other d l)<0) (hl:∃e∈S.R,e.lit=-l):∀x∈d.ls,∃e∈S.R,e.lit=-x:=λx hx=>by
 by_cases D8:x=l
 ·rw [D8]; exact hl
 ·by_cases yw:x=other d l
  ·rw [yw]; exact zD (by rcases jU S (other d l) with e | e | e<;>omega)
  ·exact zD (BG hg (by omega) hx yw D8)
end bp
namespace bp
open Go Vc T
open Trail (TI Tr St fR gj ij bW cR eY cL upto bZ dK jO)
structure Rs (S:ES):Prop where
 rsn:∀(i:Nat) (e:E),S.R[i]?=some e->0<=e.rs->∃(k:Nat) (d:Hd),S.H[k]?=some d/\d.at_=e.rs/\e.lit∈d.ls/\∀x∈d.ls,x≠e.lit->∃(j:Nat) (f:E),j<i/\S.R[j]?=some f/\f.lit=-x
theorem Rs.put {S:ES} (h:Rs S) {k:Nat} {d:Hd} {l:Int} (hd:S.H[k]?=some d) (hu:Yh S d l):Rs (kA S l d.at_):=by
 refine ⟨λi e he h0=>?_⟩;rcases eB he with ⟨hi,h1⟩ | ⟨hi,rfl⟩
 ·obtain ⟨k',d',a,b,c,g⟩:=h.rsn i e h1 h0;refine ⟨k',d',a,b,c,λx hx bz=>?_⟩;obtain ⟨j,f,hj,hf,hl⟩:=g x hx bz;exact ⟨j,f,hj,by show (S.R++[_])[j]?=some f; rw [List.getElem?_append_left (by omega)]; exact hf,hl⟩
 ·refine ⟨k,d,hd,rfl,hu.1,λx hx bz=>?_⟩;obtain ⟨f,hf,hl⟩:=hu.2 x hx bz;obtain ⟨j,hj,rfl⟩:=List.getElem_of_mem hf;exact ⟨j,_,by omega,by show (S.R++[_])[j]?=_; rw [List.getElem?_append_left hj]; exact List.getElem?_eq_getElem hj,hl⟩
theorem Rs.to {S S':ES} (h:Rs S) (hR:S'.R=S.R) (hH:∀(k:Nat) (d:Hd),S.H[k]?=some d->∃d',S'.H[k]?=some d'/\d'.ls=d.ls/\d'.at_=d.at_):Rs S':=by
 refine ⟨λi e he h0=>?_⟩;rw [hR] at he ⊢;obtain ⟨k,d,a,b,c,g⟩:=h.rsn i e he h0;obtain ⟨d',h1,h2,h3⟩:=hH k d a;exact ⟨k,d',h1,h3.trans b,by rw [h2]; exact c,by rw [h2]; exact g⟩
theorem Rs.move {S:ES} (h:Rs S) {k:Nat} {d:Hd} (hd:S.H[k]?=some d) (l x:Int):Rs (jT S k d l x):=by
 refine h.to rfl λj d1 hj=>?_;show ∃d',(S.H.set k {d with e0:=other d l,e1:=x})[j]?=some d'/\_;rw [List.getElem?_set];by_cases f_:k=j
 ·subst f_;rw [hd] at hj; injection hj with hj; subst hj;rw [if_pos rfl,if_pos (List.getElem?_eq_some_iff.1 hd).1];exact ⟨_,rfl,rfl,rfl⟩
 ·rw [if_neg f_]; exact ⟨d1,hj,rfl,rfl⟩
theorem Rs.cv {l:Int} {S:ES} {k:Nat} {todo stay:List Nat} {ok:Bool} (h:VI l S (k :: todo) stay) (hr:Rs S) (hl:∃e∈S.R,e.lit=-l):Rs (cv l (S,stay,ok) k).1/\∃e∈(bp.cv l (S,stay,ok) k).1.R,e.lit=-l:=by
 obtain ⟨d,hd,h0,h1,bz,hw⟩:=h.td k (by simp);have ho:other d l∈d.ls:=by
  obtain ⟨o1,_⟩:=lH hw bz;rcases o1 with o1 | o1<;>rw [o1]
  ·exact h0
  ·exact h1
 unfold bp.cv;dsimp only;rw [hd];dsimp only;split
 ·exact ⟨hr,hl⟩
 ·split
  ·exact ⟨hr,hl⟩
  ·split
   ·exact ⟨hr.move hd _ _,hl⟩
   ·rename_i hg;split
    ·exact ⟨hr.to rfl λk d hk=>⟨d,hk,rfl,rfl⟩,hl⟩
    ·split
     ·rename_i he;refine ⟨hr.put hd (VT hg he ho hl),?_⟩;obtain ⟨e,he,uj⟩:=hl;exact ⟨e,List.mem_append_left _ he,uj⟩
     ·exact ⟨hr,hl⟩
theorem Rs.fold {l:Int} : ∀(todo:List Nat) (S:ES) (stay:List Nat) (ok:Bool),VI l S todo stay->Rs S->(∃e∈S.R,e.lit=-l)->Rs (todo.foldl (bp.cv l) (S,stay,ok)).1
 | [],S,stay,ok,h,hr,_=>hr
 | k :: todo,S,stay,ok,h,hr,hl=>by
  obtain ⟨a,b⟩:=Rs.cv (ok:=ok) h hr hl;exact Rs.fold todo _ _ (bp.cv l (S,stay,ok) k).2.2 h.step a b
theorem Rs.visit {S:ES} (h:WfE S) (hr:Rs S) {l:Int} (hl:Wi S.nv l) (he:∃e∈S.R,e.lit=-l):Rs (visit S l).1:=
 (Rs.fold (ck S (bn l)) {S with lists:=S.lists.set (bn l) []} [] true (VI.start h hl) (hr.to rfl λk d hk=>⟨d,hk,rfl,rfl⟩) he).to rfl λk d hk=>⟨d,hk,rfl,rfl⟩
end bp
namespace bp
open Go Vc T
open Trail (TI Tr St fR gj ij bW cR eY cL upto bZ dK jO)
theorem Rs.single {S:ES} (h:Rs S) {k:Nat} {d:Hd} (hd:S.H[k]?=some d) (hs:d.ls.length<2):Rs (single S d).1:=by
 unfold bp.single;split
 ·rename_i l hf;have hl:=List.mem_of_find?_eq_some hf;split
  ·exact h
  ·refine h.put hd ⟨hl,λx hx bz=>absurd ?_ bz⟩;match pW:d.ls with
   | []=>rw [pW] at hx; cases hx
   | [y]=>
    rw [pW] at hx hl;exact (List.mem_singleton.1 hx).trans (List.mem_singleton.1 hl).symm
   | y :: z :: zs=>rw [pW] at hs; simp only [List.length_cons] at hs; omega
 ·exact h.to rfl λk d hk=>⟨d,hk,rfl,rfl⟩
def Sh1 (S:ES):Prop:=∀k∈S.short,∀d,S.H[k]?=some d->d.ls.length<2
theorem Sh1.fr {S S':ES} (h:Sh1 S) (hf:Fr S S'):Sh1 S':=λk hk d hd=>by
 rw [hf.short] at hk;obtain ⟨d0,h0,e,_⟩:=hf.pW k d hd;rw [e]; exact h k hk d0 h0
theorem Rs.xA:∀(ids:List Nat) (acc:ES×Bool),Rs acc.1->(∀k∈ids,∀d,acc.1.H[k]?=some d->d.ls.length<2)->Rs (ids.foldl dz acc).1
 | [],acc,h,_=>h
 | k :: ids,acc,h,hs=>by
  have hf:=uT acc k;refine Rs.xA ids (dz acc k) ?_ λj hj d hd=>?_
  ·unfold dz;split
   ·exact h
   ·split
    ·exact h
    ·rename_i d hd;exact h.single hd (hs k (by simp) d hd)
  ·obtain ⟨d0,h0,e,_⟩:=hf.pW j d hd;rw [e]; exact hs j (List.mem_cons_of_mem _ hj) d0 h0
theorem Rs.bu:∀(n:Nat) (S:ES),WfE S->kJ S->Rs S->Rs (bu n S).1
 | 0,S,hw,hs,h=>h
 | n+1,S,hw,hs,h=>by
  unfold bp.bu;cases he:S.R[S.head]? with
  | none=>exact h
  | some e=>
   dsimp only;have pq:=List.mem_of_getElem? he;have sH:Wi S.nv e.lit:=gN (hs.own e pq);have vF:=hw.self (S.head+1) S.rest S.aQ S.dead S.bad;have v1:=vF.visit (l:=-e.lit) (jC sH);have v2:=u_ (S:={S with head:=S.head+1}) vF hs (l:=-e.lit) (jC sH);have h':Rs {S with head:=S.head+1}:=h.to rfl λk d hk=>⟨d,hk,rfl,rfl⟩
   have v3:=Rs.visit (S:={S with head:=S.head+1}) vF h' (l:=-e.lit) (jC sH) ⟨e,pq,by omega⟩;split
   ·exact Rs.bu n _ v1 v2 v3
   ·exact v3
theorem Rs.spread {S:ES} (hw:WF S) (hs:Sh1 S) (h:Rs S):Rs (spread S).1:=by
 unfold bp.spread;split
 ·exact h
 dsimp only;have BC:WfE (aV S).1/\kJ (aV S).1/\Rs (aV S).1:=by
  unfold aV;split
  ·have:=kK S.short (S,true) hw.toWfE hw.st;exact ⟨this.1,this.2,Rs.xA S.short (S,true) h hs⟩
  ·exact ⟨hw.toWfE,hw.st,h⟩
 obtain ⟨a,b,c⟩:=BC;split
 ·exact (Rs.bu S.nv (aV S).1 a b c).to rfl λk d hk=>⟨d,hk,rfl,rfl⟩
 ·exact c.to rfl λk d hk=>⟨d,hk,rfl,rfl⟩
theorem Rs.dec {S:ES} (h:Rs S) (l:Int):Rs (dG S l):=by
 unfold dG;split
 ·refine ⟨λi e he h0=>?_⟩;rcases eB he with ⟨hi,h1⟩ | ⟨hi,rfl⟩
  ·obtain ⟨k',d',a,b,c,g⟩:=h.rsn i e h1 h0;refine ⟨k',d',a,b,c,λx hx bz=>?_⟩;obtain ⟨j,f,hj,hf,hl⟩:=g x hx bz;exact ⟨j,f,hj,by show (S.R++[_])[j]?=some f; rw [List.getElem?_append_left (by omega)]; exact hf,hl⟩
  ·exact absurd h0 (show ¬(0:Int)<= -1 by decide)
 ·exact h
theorem Rs.cut {S:ES} (hs:kJ S) (h:Rs S) {k:Int} (qD:0<=k) (hk:k<=S.L.length):Rs (fE S k):=by
 obtain ⟨u1,u2⟩:=jD hs qD hk;refine ⟨λi e he h0=>?_⟩;have mR:(upto k S.R)[i]?=some e:=he;rw [u1,List.getElem?_take] at mR;split at mR
 ·rename_i hi;obtain ⟨k',d',a,b,c,g⟩:=h.rsn i e mR h0;refine ⟨k',d',a,b,c,λx hx bz=>?_⟩;obtain ⟨j,f,hj,hf,hl⟩:=g x hx bz;refine ⟨j,f,hj,?_,hl⟩;show (upto k S.R)[j]?=some f;rw [u1,List.getElem?_take,if_pos (by omega)];exact hf
 ·cases mR
end bp
namespace bp
open Go Vc T
open Trail (TI Tr St fR gj ij bW cR eY cL upto bZ dK jO)
theorem abv {S:ES} (h:S.R=[]):Rs S:=⟨λi e he=>by rw [h] at he; simp at he⟩
theorem oJ (S:ES) (s:List Int):(∀(k:Nat) (d:Hd),S.H[k]?=some d->∃d',(aY S s).H[k]?=some d'/\d'.ls=d.ls/\d'.at_=d.at_)/\(∃d',(aY S s).H[S.H.length]?=some d'/\d'.ls=s/\d'.at_=xy S)/\(aY S s).R=S.R/\(aY S s).L=S.L/\(aY S s).nv=S.nv:=by
 have h1:∀(k:Nat) (d:Hd),S.H[k]?=some d->(S.H++[dA S s])[k]?=some d:=λk d hk=>by
  rw [List.getElem?_append_left (List.getElem?_eq_some_iff.1 hk).1]; exact hk
 have h2:(S.H++[dA S s])[S.H.length]?=some (dA S s):=by rw [List.getElem?_append_right (Nat.le_refl _),Nat.sub_self]; rfl
 have hl:S.H.length<(S.H++[dA S s]).length:=by rw [List.length_append]; simp
 unfold aY;split
 ·refine ⟨λk d hk=>⟨d,?_,rfl,rfl⟩,⟨_,List.getElem?_set_self hl,rfl,rfl⟩,rfl,rfl,rfl⟩;show ((S.H++[dA S s]).set S.H.length _)[k]?=some d;have:=(List.getElem?_eq_some_iff.1 hk).1;rw [List.getElem?_set_ne (by omega)];exact h1 k d hk
 ·exact ⟨λk d hk=>⟨d,h1 k d hk,rfl,rfl⟩,⟨_,h2,rfl,rfl⟩,rfl,rfl,rfl⟩
theorem Rs.gE {S:ES} (hs:kJ S) (h:Rs S) {back:Int} {s:List Int} (wC:0<=back) (uk:back<=S.L.length) (bz:s≠[]) (hu:∀x∈s,x≠s.headD 0->∃e∈upto back S.R,e.lit=-x):Rs (cU S back s):=by
 obtain ⟨e1,⟨d,e2,e3,e4⟩,e5,e6,e7⟩:=oJ S s;have h1:Rs (aY S s):=h.to e5 e1;have h2:Rs (fE (aY S s) back):=h1.cut (by unfold kJ; rw [e5,e6,e7]; exact hs) wC (by rw [e6]; exact uk);have h3:=h2.put (k:=S.H.length) (d:=d) (l:=s.headD 0) e2 ⟨by rw [e3]; cases s with
  | nil=>exact absurd rfl bz
  | cons y ys=>simp,λx hx hxn=>by
  rw [e3] at hx;obtain ⟨e,he,hl⟩:=hu x hx hxn;exact ⟨e,by show e∈upto back (aY S s).R; rw [e5]; exact he,hl⟩⟩
 rw [e4] at h3;exact h3
theorem Rs.forget {S:ES} (h:Rs S) (i:Int):Rs (forget S i).2:=by
 unfold bp.forget;split
 ·exact h
 ·split
  ·exact h
  ·split
   ·exact h
   ·rename_i k hk;split
    ·exact h
    ·rename_i d hd;split
     ·exact h
     ·refine h.to rfl λj d1 hj=>?_;show ∃d',(S.H.set k {d with gone:=true})[j]?=some d'/\d'.ls=d1.ls/\d'.at_=d1.at_;rw [List.getElem?_set];by_cases f_:k=j
      ·subst f_;rw [hd] at hj; injection hj with hj; subst hj;rw [if_pos rfl,if_pos (List.getElem?_eq_some_iff.1 hd).1];exact ⟨_,rfl,rfl,rfl⟩
      ·rw [if_neg f_]; exact ⟨d1,hj,rfl,rfl⟩
end bp
namespace bp
open Go Vc T
open mT (Ar words off cw)
open dw (fl bx)
open bU (En)
structure Pl (S:ES):Prop where
 jr:∀(k:Nat) (d:Hd),S.H[k]?=some d->∃(j:Nat) (c:List Int),S.ar.cs[j]?=some c/\d.at_=off S.ar.cs j/\(∀x,x∈c↔x∈d.ls)/\(d.gone=false->d.at_∈S.ar.live)
 inj:∀(k k':Nat) (d d':Hd),S.H[k]?=some d->S.H[k']?=some d'->d.at_=d'.at_->k=k'
 nd:S.ar.live.Nodup
 lv:∀r∈S.ar.live,∃j,j<S.ar.cs.length/\r=off S.ar.cs j
def Rg (S:ES):Prop:=∀e∈S.R,0<=e.rs->∃(k:Nat) (d:Hd),S.H[k]?=some d/\d.at_=e.rs/\d.gone=false
theorem Pl.get {S:ES} (h:Pl S) {k:Nat} {d:Hd} (hd:S.H[k]?=some d) (hg:d.gone=false):∀x,x∈gW S.ar d.at_↔x∈d.ls:=by
 obtain ⟨j,c,h1,h2,h3,h4⟩:=h.jr k d hd;unfold gW;rw [if_pos (h4 hg),h2,ud _ _ _ h1];exact h3
theorem zG {S:ES} (hp:Pl S) (hg:Rg S) {e:Trail.E} (he:e∈S.R) (h0:0<=e.rs):∃(k:Nat) (d:Hd),S.H[k]?=some d/\d.at_=e.rs/\d.gone=false/\∀x,x∈(kC S e).rs↔x∈d.ls:=by
 obtain ⟨k,d,h1,h2,h3⟩:=hg e he h0;refine ⟨k,d,h1,h2,h3,λx=>?_⟩;unfold kC;rw [if_pos h0,<-h2];exact hp.get h1 h3 x
theorem VU {S:ES} (hp:Pl S) (hg:Rg S) (hw:WfE S) {k:Nat} {d:Hd} (hd:S.H[k]?=some d) (bz:d.ls≠[]) {e:Trail.E} (he:e∈S.R) (h0:0<=e.rs) (ha:d.at_=e.rs):fq S d=true:=by
 obtain ⟨k',d',h1,h2,h3,h4⟩:=zG hp hg he h0;have hk:=hp.inj k k' d d' hd h1 (by rw [ha,h2]);subst hk;rw [hd] at h1; injection h1 with h1; subst h1;have hf:∀x∈d.ls,fl x=true:=λx hx=>iA hw.nv ((hw.hl k d hd).1 x hx);unfold fq;refine List.any_eq_true.2 ⟨kC S e,List.mem_map.2 ⟨e,he,rfl⟩,?_⟩;unfold rsB tD;have nL:0<(kC S e).rs.length:=by
  obtain ⟨x,hx⟩:=List.exists_mem_of_ne_nil _ bz;exact List.length_pos_of_mem ((h4 x).2 hx)
 simp only [Bool.and_eq_true,decide_eq_true_eq,List.all_eq_true];exact ⟨nL,⟨λx hx=>hf x ((h4 x).1 hx),hf⟩,λx hx=>(h4 x).1 hx,λx hx=>(h4 x).2 hx⟩
end bp
namespace bp
open Go Vc T
open Trail (E St bW)
open dw (fl bx)
open bU (En Fm Good Lev Rsn eO)
theorem Kt {es:List En} {x:En} (h:Fm es) (hx:bU.Good es x):Fm (es++[x]):=λi y hy=>by
 rcases eB hy with ⟨hi,h1⟩ | ⟨hi,rfl⟩
 ·rw [List.take_append_of_le_length (by omega)]; exact h i y h1
 ·rw [hi,List.take_append_of_le_length (Nat.le_refl _),List.take_length]; exact hx
theorem neg_eq {l:Int} (h:fl l=true):bU.neg l=-l:=by
 have:=bx.1 h;unfold bU.neg; rw [IntKind.wrap_i64]; omega
def RT (f:E->En) (R:List E):Prop:=∀(i:Nat) (e:E),R[i]?=some e->(f e).lit=e.lit/\(f e).dM=e.lv/\(e.rs<0->(f e).rs=[])/\(0<=e.rs->(f e).rs.all fl=true/\e.lit∈(f e).rs/\∀l∈(f e).rs,l≠e.lit->∃(j:Nat) (g:E),j<i/\R[j]?=some g/\g.lit=-l)
theorem RT.front {f:E->En} {R:List E} {x:E} (h:RT f (R++[x])):RT f R:=λi e he=>by
 have hi:=(List.getElem?_eq_some_iff.1 he).1;obtain ⟨a,b,c,d⟩:=h i e (by rw [List.getElem?_append_left hi]; exact he);refine ⟨a,b,c,λh0=>?_⟩;obtain ⟨p,q,r⟩:=d h0;refine ⟨p,q,λl hl bz=>?_⟩;obtain ⟨j,g,hj,hg,lX⟩:=r l hl bz;rw [List.getElem?_append_left (by omega)] at hg;exact ⟨j,g,hj,hg,lX⟩
theorem agc {n:Nat} (hn:n<=1048576) {f:E->En} {R:List E} {L:List Int} (h:St n R L):RT f R->Fm (R.map f)/\eO (R.map f)=L.length:=by
 have common:∀{R:List E} {x:E},(∀e∈R,bW n e.lit=true)->bW n x.lit=true->Trail.Open R x.lit->RT f (R++[x])->fl (f x).lit=true/\∀y∈R.map f,y.lit≠(f x).lit/\y.lit≠bU.neg (f x).lit:=λ{R x} ho hx yD hT=>by
  obtain ⟨a,_,_,_⟩:=hT R.length x (by rw [List.getElem?_append_right (Nat.le_refl _),Nat.sub_self]; rfl);have Tq:fl x.lit=true:=iA hn (gN hx);rw [a];refine ⟨Tq,λy hy=>?_⟩;obtain ⟨e,he,rfl⟩:=List.mem_map.1 hy;obtain ⟨i,hi,rfl⟩:=List.getElem_of_mem he;obtain ⟨b,_,_,_⟩:=hT.front i _ (List.getElem?_eq_getElem hi);have bz:=yD _ he;rw [b,neg_eq Tq];exact ⟨λe=>bz (by rw [e]),λe=>bz (by rw [e,Int.natAbs_neg])⟩
 have lst:∀{R:List E} {x:E},eO ((R++[x]).map f)=(f x).dM:=λ{R x}=>by
  rw [List.map_append]; unfold eO; simp
 induction h with
 | nil=>exact λ_=>⟨λi x hx=>by simp at hx,rfl⟩
 | @mA R L l r h ho yD hr ih=>
  intro hT;obtain ⟨h1,h2⟩:=ih hT.front;obtain ⟨c1,c2⟩:=common h.own ho yD hT;obtain ⟨a,b,c,d⟩:=hT R.length _ (by rw [List.getElem?_append_right (Nat.le_refl _),Nat.sub_self]; rfl);obtain ⟨p,q,s⟩:=d hr;refine ⟨?_,by rw [lst,b]⟩;rw [List.map_append];refine Kt h1 ⟨c1,c2,⟨Or.inl (by rw [b,h2]),Or.inr ⟨λhh=>absurd (by rw [b,h2]) hh,λhh=>by rw [hh] at q; cases q⟩⟩,λ_=>⟨p,by rw [a]; exact q,λl' jh bz=>?_⟩⟩;obtain ⟨j,g,hj,hg,lX⟩:=s l' jh (by rw [a] at bz; exact bz);rw [List.getElem?_append_left hj] at hg;obtain ⟨b',_,_,_⟩:=hT.front j g hg;refine ⟨f g,List.mem_map.2 ⟨g,List.mem_of_getElem? hg,rfl⟩,?_⟩;rw [b',lX,neg_eq (List.all_eq_true.1 p l' jh)]
 | @decide R L l h ho yD ih=>
  intro hT;obtain ⟨h1,h2⟩:=ih hT.front;obtain ⟨c1,c2⟩:=common h.own ho yD hT;obtain ⟨a,b,c,d⟩:=hT R.length _ (by rw [List.getElem?_append_right (Nat.le_refl _),Nat.sub_self]; rfl);have uc:=h.T5;have zH:=h.len;refine ⟨?_,by rw [lst,b,List.length_append]; rfl⟩;rw [List.map_append];have Rk:=c (show (-1:Int)<0 by decide);refine Kt h1 ⟨c1,c2,⟨Or.inr (by rw [b,h2,IntKind.wrap_i64]; show ((L.length+1:Nat):Int)=_; omega),Or.inr ⟨λ_=>Rk,λ_=>by rw [b,h2]; show ((L.length+1:Nat):Int)≠_; omega⟩⟩,λhh=>absurd Rk hh⟩
end bp
namespace bp
open Go Vc T
open Trail (E St bW)
open dw (fl bx)
open bU (En Fm eO)
theorem agd {S:ES} (hw:WF S) (hr:Rs S) (hp:Pl S) (hg:Rg S):RT (kC S) S.R:=λi e he=>by
 refine ⟨rfl,rfl,λaM=>?_,λh0=>?_⟩
 ·unfold kC; exact if_neg (by omega)
 ·have pq:=List.mem_of_getElem? he;obtain ⟨k,d,h1,h2,h3,h4⟩:=zG hp hg pq h0;obtain ⟨k',d',g1,g2,g3,g4⟩:=hr.rsn i e he h0;have hk:=hp.inj k k' d d' h1 g1 (by rw [h2,g2]);subst hk;rw [h1] at g1; injection g1 with g1; subst g1;exact ⟨List.all_eq_true.2 λx hx=>iA hw.nv ((hw.hl k d h1).1 x ((h4 x).1 hx)),(h4 _).2 g3,λl hl bz=>g4 l ((h4 l).1 hl) bz⟩
theorem VV {S:ES} (hw:WF S) (hr:Rs S) (hp:Pl S) (hg:Rg S):Fm (cB S)/\eO (cB S)=S.L.length:=agc hw.nv hw.st (agd hw hr hp hg)
end bp
namespace bp
open Go Vc T
open Trail (E St bW upto)
theorem Fr.fwd {S S':ES} (h:Fr S S') {k:Nat} {d:Hd} (hd:S.H[k]?=some d):∃d',S'.H[k]?=some d'/\d'.ls=d.ls/\d'.at_=d.at_/\d'.gone=d.gone:=by
 obtain ⟨d',e_⟩:=bt.bg (show k<S'.H.length by rw [h.hlen]; exact (List.getElem?_eq_some_iff.1 hd).1);obtain ⟨d0,h0,r⟩:=h.pW k d' e_;rw [hd] at h0; injection h0 with h0; subst h0;exact ⟨d',e_,r⟩
theorem Pl.fr {S S':ES} (h:Pl S) (hf:Fr S S'):Pl S':=by
 refine ⟨λk d' e_=>?_,λk k' d1 d2 h1 h2 he=>?_,by rw [hf.ar]; exact h.nd,by rw [hf.ar]; exact h.lv⟩
 ·obtain ⟨d,hd,e1,e2,e3⟩:=hf.pW k d' e_;rw [hf.ar,e1,e2,e3];exact h.jr k d hd
 ·obtain ⟨a,ha,_,ea,_⟩:=hf.pW k d1 h1;obtain ⟨b,hb,_,eb,_⟩:=hf.pW k' d2 h2;exact h.inj k k' a b ha hb (by rw [<-ea,<-eb,he])
theorem Rg.fr {S S':ES} (h:Rg S) (hf:Fr S S') (hn:∀e∈S'.R,e∈S.R\/(0<=e.rs->∃(k:Nat) (d:Hd),S.H[k]?=some d/\d.at_=e.rs/\d.gone=false)):Rg S':=λe he h0=>by
 have:∃(k:Nat) (d:Hd),S.H[k]?=some d/\d.at_=e.rs/\d.gone=false:=by
  rcases hn e he with h1 | h1
  ·exact h e h1 h0
  ·exact h1 h0
 obtain ⟨k,d,hd,h2,h3⟩:=this;obtain ⟨d',e_,_,e2,e3⟩:=hf.fwd hd;exact ⟨k,d',e_,e2.trans h2,e3.trans h3⟩
theorem Rg.put {S:ES} (h:Rg S) {k:Nat} {d:Hd} (hd:S.H[k]?=some d) (hg:d.gone=false) (l:Int):Rg (kA S l d.at_):=
 h.fr (HX S l d.at_) λe he=>by
  rcases List.mem_append.1 he with he | he
  ·exact Or.inl he
  ·rw [List.mem_singleton.1 he]; exact Or.inr λ_=>⟨k,d,hd,rfl,hg⟩
theorem Rg.cv {l:Int} {S:ES} (h:Rg S) (k:Nat) (stay:List Nat) (ok:Bool):Rg (cv l (S,stay,ok) k).1:=by
 unfold bp.cv;dsimp only;cases hd:S.H[k]? with
 | none=>exact h
 | some d=>
  dsimp only;split
  ·exact h
  ·rename_i hg;have hg:d.gone=false:=by simpa using hg
   split
   ·exact h
   ·split
    ·exact h.fr (J3 hd _ _) λe he=>Or.inl he
    ·split
     ·exact h.fr (CJ _ _) λe he=>Or.inl he
     ·split
      ·exact h.put hd hg _
      ·exact h
theorem Rg.fold {l:Int} : ∀(todo:List Nat) (acc:ES×List Nat×Bool),Rg acc.1->Rg (todo.foldl (bp.cv l) acc).1
 | [],acc,h=>h
 | k :: todo,(S,stay,ok),h=>Rg.fold todo _ (Rg.cv h k stay ok)
theorem Rg.visit {S:ES} (h:Rg S) (l:Int):Rg (visit S l).1:=
 (Rg.fold (ck S (bn l)) ({S with lists:=S.lists.set (bn l) []},[],true) h:Rg _)
def Sg (S:ES):Prop:=∀k∈S.short,∀d,S.H[k]?=some d->d.gone=false
theorem Sg.fr {S S':ES} (h:Sg S) (hf:Fr S S'):Sg S':=λk hk d hd=>by
 rw [hf.short] at hk;obtain ⟨d0,h0,_,_,e⟩:=hf.pW k d hd;rw [e]; exact h k hk d0 h0
theorem Rg.xA:∀(ids:List Nat) (acc:ES×Bool),Rg acc.1->(∀k∈ids,∀d,acc.1.H[k]?=some d->d.gone=false)->Rg (ids.foldl dz acc).1
 | [],acc,h,_=>h
 | k :: ids,acc,h,hs=>by
  have hf:=uT acc k;refine Rg.xA ids (dz acc k) ?_ λj hj d hd=>?_
  ·unfold dz;split
   ·exact h
   ·split
    ·exact h
    ·rename_i d hd;unfold bp.single;split
     ·split
      ·exact h
      ·exact h.put hd (hs k (by simp) d hd) _
     ·exact h.fr (CJ _ _) λe he=>Or.inl he
  ·obtain ⟨d0,h0,_,_,e⟩:=hf.pW j d hd;rw [e]; exact hs j (List.mem_cons_of_mem _ hj) d0 h0
theorem Rg.bu:∀(n:Nat) (S:ES),Rg S->Rg (bu n S).1
 | 0,S,h=>h
 | n+1,S,h=>by
  unfold bp.bu;cases he:S.R[S.head]? with
  | none=>exact h
  | some e=>
   dsimp only;have h1:Rg (bp.visit {S with head:=S.head+1} (-e.lit)).1:=Rg.visit (S:={S with head:=S.head+1}) h _;split
   ·exact Rg.bu n _ h1
   ·exact h1
theorem Rg.spread {S:ES} (h:Rg S) (hs:Sg S):Rg (spread S).1:=by
 unfold bp.spread;split
 ·exact h
 dsimp only;have BC:Rg (aV S).1:=by
  unfold aV;split
  ·exact Rg.xA S.short (S,true) h hs
  ·exact h
 split
 ·exact Rg.bu S.nv (aV S).1 BC
 ·exact BC
theorem Rg.dec {S:ES} (h:Rg S) (l:Int):Rg (dG S l):=by
 unfold dG;split
 ·intro e he h0;have mR:e∈S.R++[(⟨l,(S.L.length+1:Nat), -1⟩:E)]:=he;rcases List.mem_append.1 mR with mR | mR
  ·exact h e mR h0
  ·rw [List.mem_singleton.1 mR] at h0;exact absurd h0 (show ¬(0:Int)<= -1 by decide)
 ·exact h
theorem Rg.cut {S:ES} (h:Rg S) (k:Int):Rg (fE S k):=λe he h0=>h e (List.mem_filter.1 he).1 h0
end bp
namespace bp
open Go Vc T
open mT (Ar words off cw ym yo Cu)
theorem Pl.eU {S:ES} (h:Pl S) (c:List Int):Pl (eU S c):=by
 have aM:∀r∈S.ar.live,r<((words S.ar.cs).length:Nat):=λr hr=>by
  obtain ⟨j,hj,rfl⟩:=h.lv r hr;have:=Cu S.ar.cs hj;omega
 refine ⟨λk d hd=>?_,h.inj,?_,λr hr=>?_⟩
 ·obtain ⟨j,c0,h1,h2,h3,h4⟩:=h.jr k d hd;have hj:=(List.getElem?_eq_some_iff.1 h1).1;refine ⟨j,c0,?_,?_,h3,λhg=>List.mem_append_left _ (h4 hg)⟩
  ·show (S.ar.cs++[c])[j]?=some c0; rw [List.getElem?_append_left hj]; exact h1
  ·show d.at_=off (S.ar.cs++[c]) j; rw [yo _ _ (by omega)]; exact h2
 ·show (S.ar.live++[((words S.ar.cs).length:Int)]).Nodup;exact List.nodup_append.2 ⟨h.nd,by simp,λa ha b hb=>by rw [List.mem_singleton.1 hb]; have:=aM a ha; omega⟩
 ·have N3:r∈S.ar.live++[((words S.ar.cs).length:Int)]:=hr;have hl:(S.ar.cs++[c]).length=S.ar.cs.length+1:=by rw [List.length_append]; rfl
  show ∃j,j<(S.ar.cs++[c]).length/\r=off (S.ar.cs++[c]) j;rcases List.mem_append.1 N3 with N3 | N3
  ·obtain ⟨j,hj,e⟩:=h.lv r N3;exact ⟨j,by omega,by rw [yo _ _ (by omega)]; exact e⟩
  ·exact ⟨S.ar.cs.length,by omega,by rw [ym]; exact List.mem_singleton.1 N3⟩
theorem Pl.hold {S:ES} (h:Pl S) {c:List Int} {d:Hd} (ha:d.at_=xy S) (hs:∀x,x∈c↔x∈d.ls):Pl {bp.eU S c with H:=S.H++[d]}:=by
 have hP:=h.eU c;refine ⟨λk d' hd=>?_,λk k' d1 d2 h1 h2 he=>?_,hP.nd,hP.lv⟩
 ·rcases eB hd with ⟨_,h1⟩ | ⟨_,rfl⟩
  ·exact hP.jr k d' h1
  ·refine ⟨S.ar.cs.length,c,?_,?_,hs,λ_=>?_⟩
   ·show (S.ar.cs++[c])[S.ar.cs.length]?=some c;rw [List.getElem?_append_right (Nat.le_refl _),Nat.sub_self]; rfl
   ·show d.at_=off (S.ar.cs++[c]) _; rw [ym,ha]; rfl
   ·rw [ha]; exact List.mem_append_right _ (by simp [xy])
 ·have jH:∀{k:Nat} {d0:Hd},S.H[k]?=some d0->d0.at_≠xy S:=λ{k d0} h0 e=>by
   obtain ⟨j,c0,q1,q2,_,_⟩:=h.jr k d0 h0;have:=Cu S.ar.cs (List.getElem?_eq_some_iff.1 q1).1;rw [e] at q2;unfold xy at q2;omega
  rcases eB h1 with ⟨_,g1⟩ | ⟨e1,rfl⟩<;>rcases eB h2 with ⟨_,g2⟩ | ⟨e2,rfl⟩
  ·exact h.inj k k' d1 d2 g1 g2 he
  ·exact absurd (he.trans ha) (jH g1)
  ·exact absurd (he.symm.trans ha) (jH g2)
  ·omega
end bp
namespace bp
open Go Vc T
open mT (Ar words off cw)
theorem Pl.to {S S':ES} (h:Pl S) (ha:S'.ar=S.ar) (hH:∀(k:Nat) (d':Hd),S'.H[k]?=some d'->∃d,S.H[k]?=some d/\d'.ls=d.ls/\d'.at_=d.at_/\d'.gone=d.gone):Pl S':=by
 refine ⟨λk d' e_=>?_,λk k' d1 d2 h1 h2 he=>?_,by rw [ha]; exact h.nd,by rw [ha]; exact h.lv⟩
 ·obtain ⟨d,hd,e1,e2,e3⟩:=hH k d' e_;rw [ha,e1,e2,e3];exact h.jr k d hd
 ·obtain ⟨a,ha,_,ea,_⟩:=hH k d1 h1;obtain ⟨b,hb,_,eb,_⟩:=hH k' d2 h2;exact h.inj k k' a b ha hb (by rw [<-ea,<-eb,he])
theorem CW {S:ES} {k:Nat} {d:Hd} (hd:S.H[k]?=some d) (a c:Int):∀(j:Nat) (d':Hd),(gC S k d a c).H[j]?=some d'->∃d0,S.H[j]?=some d0/\d'.ls=d0.ls/\d'.at_=d0.at_/\d'.gone=d0.gone:=λj d' hj=>by
 have lW:(S.H.set k {d with e0:=a,e1:=c})[j]?=some d':=hj;rw [List.getElem?_set] at lW;by_cases f_:k=j
 ·subst f_;rw [if_pos rfl,if_pos (List.getElem?_eq_some_iff.1 hd).1] at lW;injection lW with lW;exact ⟨d,hd,by rw [<-lW],by rw [<-lW],by rw [<-lW]⟩
 ·rw [if_neg f_] at lW; exact ⟨d',lW,rfl,rfl,rfl⟩
theorem Pl.watch {S:ES} (h:Pl S) {k:Nat} {d:Hd} (hd:S.H[k]?=some d) (a c:Int):Pl (gC S k d a c):=h.to rfl (CW hd a c)
theorem Pl.forget {S:ES} (h:Pl S) (i:Int):Pl (forget S i).2:=by
 unfold bp.forget;split
 ·exact h
 ·split
  ·exact h
  ·split
   ·exact h
   ·rename_i k hk;split
    ·exact h
    ·rename_i d hd;split
     ·exact h
     ·have pX:=(List.getElem?_eq_some_iff.1 hd).1;have hH:∀(j:Nat) (d':Hd),(S.H.set k {d with gone:=true})[j]?=some d'->(j=k/\d'={d with gone:=true})\/(j≠k/\S.H[j]?=some d'):=λj d' hj=>by
       rw [List.getElem?_set] at hj;by_cases f_:k=j
       ·subst f_;rw [if_pos rfl,if_pos pX] at hj;injection hj with hj;exact Or.inl ⟨rfl,hj.symm⟩
       ·rw [if_neg f_] at hj; exact Or.inr ⟨λe=>f_ e.symm,hj⟩
      refine ⟨λj d' hj=>?_,λj j' d1 d2 h1 h2 he=>?_,h.nd.erase _,λr hr=>h.lv r (List.mem_of_mem_erase hr)⟩
      ·rcases hH j d' hj with ⟨rfl,rfl⟩ | ⟨bz,h0⟩
       ·obtain ⟨a,c,q1,q2,q3,_⟩:=h.jr _ d hd;exact ⟨a,c,q1,q2,q3,λhg=>by cases hg⟩
       ·obtain ⟨a,c,q1,q2,q3,q4⟩:=h.jr j d' h0;refine ⟨a,c,q1,q2,q3,λhg=>?_⟩;exact (List.mem_erase_of_ne λe=>bz (h.inj j k d' d h0 hd e)).2 (q4 hg)
      ·rcases hH j d1 h1 with ⟨rfl,rfl⟩ | ⟨_,g1⟩<;>rcases hH j' d2 h2 with ⟨rfl,rfl⟩ | ⟨_,g2⟩
       ·rfl
       ·exact h.inj _ j' d d2 hd g2 he
       ·exact h.inj j _ d1 d g1 hd he
       ·exact h.inj j j' d1 d2 g1 g2 he
end bp
namespace bp
open Go Vc T
open mT (Ar words off cw)
open dw (fl bx Td)
open bt (bg)
structure Inv (S:ES):Prop extends WF S where
 rs:Rs S
 pl:Pl S
 rg:Rg S
 s1:Sh1 S
 sg:Sg S
 dj:∀k∈S.short,k∉S.aC
theorem Inv.spread {S:ES} (h:Inv S):Inv (spread S).1/\Fr {S with head:=(spread S).1.head,rest:=(spread S).1.rest,aQ:=(spread S).1.aQ} (spread S).1:=by
 have hf:Fr {S with head:=(bp.spread S).1.head,rest:=(bp.spread S).1.rest,aQ:=(bp.spread S).1.aQ} (bp.spread S).1:=by
  unfold bp.spread;split
  ·exact Fr.refl _
  dsimp only;have BC:WfE (aV S).1/\kJ (aV S).1/\Fr S (aV S).1:=by
   unfold aV;split
   ·have:=kK S.short (S,true) h.toWfE h.st;exact ⟨this.1,this.2,nM S.short (S,true)⟩
   ·exact ⟨h.toWfE,h.st,Fr.refl _⟩
  obtain ⟨a,b,c⟩:=BC;split
  ·obtain ⟨d,e,f⟩:=mI S.nv (aV S).1 a b;have g:Fr {S with head:=(bu S.nv (aV S).1).1.head} (bu S.nv (aV S).1).1:=Fr.trans (S1:={(aV S).1 with head:=(bu S.nv (aV S).1).1.head}) {c with head:=rfl} f;exact {g with rest:=rfl,aQ:=rfl}
  ·exact {c with head:=rfl,rest:=rfl,aQ:=rfl}
 refine ⟨⟨h.toWF.spread,Rs.spread h.toWF h.s1 h.rs,Pl.fr (S:={S with head:=(bp.spread S).1.head,rest:=(bp.spread S).1.rest,aQ:=(bp.spread S).1.aQ}) (h.pl.to rfl λk d hd=>⟨d,hd,rfl,rfl,rfl⟩) hf,h.rg.spread h.sg,Sh1.fr (S:={S with head:=(bp.spread S).1.head,rest:=(bp.spread S).1.rest,aQ:=(bp.spread S).1.aQ}) h.s1 hf,Sg.fr (S:={S with head:=(bp.spread S).1.head,rest:=(bp.spread S).1.rest,aQ:=(bp.spread S).1.aQ}) h.sg hf,by rw [hf.short,hf.aC]; exact h.dj⟩,hf⟩
theorem Inv.dec {S:ES} (h:Inv S) (l:Int):Inv (dG S l):=by
 have hH:(dG S l).H=S.H/\(dG S l).short=S.short/\(dG S l).ar=S.ar/\(dG S l).aC=S.aC:=by unfold dG; split<;>exact ⟨rfl,rfl,rfl,rfl⟩
 refine ⟨h.toWF.dec l,h.rs.dec l,h.pl.to hH.2.2.1 λk d hd=>⟨d,by rw [<-hH.1]; exact hd,rfl,rfl,rfl⟩,h.rg.dec l,λk hk d hd=>?_,λk hk d hd=>?_,by rw [hH.2.1,hH.2.2.2]; exact h.dj⟩
 ·rw [hH.2.1] at hk; rw [hH.1] at hd; exact h.s1 k hk d hd
 ·rw [hH.2.1] at hk; rw [hH.1] at hd; exact h.sg k hk d hd
theorem Inv.cut {S:ES} (h:Inv S) {k:Int} (qD:0<=k) (hk:k<=S.L.length):Inv (fE S k):=
 ⟨h.toWF.cut qD hk,h.rs.cut h.st qD hk,h.pl.to rfl λk d hd=>⟨d,hd,rfl,rfl,rfl⟩,h.rg.cut k,h.s1,h.sg,h.dj⟩
end bp
namespace bp
open Go Vc T
open mT (Ar words off cw)
open dw (fl bx Td)
open bt (bg)
structure Ad (S:ES):Prop where
 pl:Pl S
 s1:Sh1 S
 sg:Sg S
theorem Ad.add {S:ES} (h:Ad S) (hw:WfS S) {c:List Int} (hc:∀x∈c,Wi S.nv x):Ad (cG S c):=by
 have hf:∀x∈c,fl x=true:=λx hx=>iA hw.nv (hc x hx);have hT:=lI hf;have hs:∀x,x∈c↔x∈(cE S c).ls:=λx=>⟨λhx=>(hT.mem x).2 ⟨hx,hf x hx⟩,λhx=>((hT.mem x).1 hx).1⟩
 have hP:=h.pl.hold (d:=cE S c) rfl hs;have su:(S.H++[cE S c])[S.H.length]?=some (cE S c):=by rw [List.getElem?_append_right (Nat.le_refl _),Nat.sub_self]; rfl
 have jH:∀{k:Nat} {d:Hd},k∈S.short->(S.H++[cE S c])[k]?=some d->S.H[k]?=some d:=λ{k d} hk hd=>by
  rcases eB hd with ⟨_,h1⟩ | ⟨e,_⟩
  ·exact h1
  ·have:=hw.sh k hk; omega
 unfold cG;split
 ·exact ⟨h.pl.eU c,h.s1,h.sg⟩
 ·split
  ·rename_i aM;refine ⟨hP.to rfl λk d hd=>⟨d,hd,rfl,rfl,rfl⟩,λk hk d hd=>?_,λk hk d hd=>?_⟩
   ·have gq:k∈S.short++[S.H.length]:=hk;have e_:(S.H++[cE S c])[k]?=some d:=hd;rcases List.mem_append.1 gq with gq | gq
    ·exact h.s1 k gq d (jH gq e_)
    ·rw [List.mem_singleton.1 gq,su] at e_;injection e_ with e_; rw [<-e_]; exact aM
   ·have gq:k∈S.short++[S.H.length]:=hk;have e_:(S.H++[cE S c])[k]?=some d:=hd;rcases List.mem_append.1 gq with gq | gq
    ·exact h.sg k gq d (jH gq e_)
    ·rw [List.mem_singleton.1 gq,su] at e_;injection e_ with e_; rw [<-e_]; rfl
  ·have hwH:=CW (S:={eU S c with H:=S.H++[cE S c]}) (k:=S.H.length) (d:=cE S c) su ((dL c).headD 0) ((dL c).tail.headD 0);refine ⟨Pl.watch (S:={eU S c with H:=S.H++[cE S c]}) hP su _ _,λk hk d hd=>?_,λk hk d hd=>?_⟩
   ·obtain ⟨d0,h0,e,_⟩:=hwH k d hd;rw [e]; exact h.s1 k hk d0 (jH hk h0)
   ·obtain ⟨d0,h0,_,_,e⟩:=hwH k d hd;rw [e]; exact h.sg k hk d0 (jH hk h0)
theorem RF {nv:Nat} (dS:nv<=1048576) {av:List (List Int)} (hn:av.length<=1048576) (hl:∀es∈av,es.length<=1048576) (hw:∀es∈av,∀x∈es,Wi nv x):Inv (jc nv av):=by
 have key:∀i,i<=av.length->NI ((av.take i).foldl cG (E0 nv)) i/\((av.take i).foldl cG (E0 nv)).nv=nv/\Ad ((av.take i).foldl cG (E0 nv)):=λi=>by
  induction i with
  | zero=>exact λ_=>⟨ni0 dS,rfl,⟨⟨λk d hd=>by simp [E0] at hd,λk k' d d' hd=>by simp [E0] at hd,List.nodup_nil,(λr hr=>by cases hr)⟩,(λk hk=>by cases hk),(λk hk=>by cases hk)⟩⟩
  | succ i ih=>
   intro hi;obtain ⟨h1,h2,h3⟩:=ih (by omega);obtain ⟨es,oH⟩:=bg (show i<av.length by omega);have pq:=List.mem_of_getElem? oH;rw [cm oH,List.foldl_append];obtain ⟨_,r0,_,_⟩:=rP ((av.take i).foldl cG (E0 nv)) es;exact ⟨h1.step (by rw [h2]; exact hw es pq) (hl es pq) (by omega),r0.trans h2,h3.add h1.wf (by rw [h2]; exact hw es pq)⟩
 have hk:=(key av.length (Nat.le_refl _)).2.2;rw [List.take_length] at hk;obtain ⟨_,_,hR,_,hLe,_⟩:=oI dS hn hl hw;exact ⟨VP dS hn hl hw,abv hR,hk.pl,(λe he=>by rw [hR] at he; cases he),hk.s1,hk.sg,λk _ hh=>by rw [hLe] at hh; cases hh⟩
theorem Inv.forget {S : ES} (h : Inv S) (i : Int) : Inv (forget S i).2 := by
  refine ⟨h.toWF.forget i, h.rs.forget i, h.pl.forget i, ?_, ?_, ?_, ?_⟩
  all_goals (
    unfold bp.forget
    split
    · first | exact h.rg | exact h.s1 | exact h.sg | exact h.dj
    · split
      · first | exact h.rg | exact h.s1 | exact h.sg | exact h.dj
      · split
        · first | exact h.rg | exact h.s1 | exact h.sg | exact h.dj
        · rename_i k hk
          split
          · first | exact h.rg | exact h.s1 | exact h.sg | exact h.dj
          · rename_i d hd
            have pX := (List.getElem?_eq_some_iff.1 hd).1
            have VW : k ∈ S.aC := List.mem_of_getElem? hk
            have hH : ∀ (j : Nat), (S.H.set k { d with gone := true })[j]? = if k = j then some { d with gone := true } else S.H[j]? := fun j => by
              rw [List.getElem?_set]
              by_cases f_ : k = j
              · rw [if_pos f_, if_pos pX, if_pos f_]
              · rw [if_neg f_, if_neg f_]
            split
            · first | exact h.rg | exact h.s1 | exact h.sg | exact h.dj
            · rename_i Dh
              first
              | (show ∀ j ∈ S.short, j ∉ S.aC.eraseIdx _
                 exact fun j hj hh => h.dj j hj (List.mem_of_mem_eraseIdx hh))
              | (show ∀ j ∈ S.short, ∀ d1, (S.H.set k { d with gone := true })[j]? = some d1 → d1.gone = false
                 intro j hj d1 tg
                 rw [hH, if_neg (fun e : k = j => h.dj j hj (e ▸ VW))] at tg
                 exact h.sg j hj d1 tg)
              | (show ∀ j ∈ S.short, ∀ d1, (S.H.set k { d with gone := true })[j]? = some d1 → d1.ls.length < 2
                 intro j hj d1 tg
                 rw [hH, if_neg (fun e : k = j => h.dj j hj (e ▸ VW))] at tg
                 exact h.s1 j hj d1 tg)
              | (intro e he h0
                 obtain ⟨k', d', g1, g2, g3⟩ := h.rg e he h0
                 refine ⟨k', d', ?_, g2, g3⟩
                 show (S.H.set k { d with gone := true })[k']? = some d'
                 rw [hH, if_neg (fun ek : k = k' => ?_)]
                 · exact g1
                 subst ek
                 rw [hd] at g1; injection g1 with g1; subst g1
                 obtain ⟨i', cW, rfl⟩ := List.getElem_of_mem he
                 obtain ⟨k2, d2, q1, q2, q3, _⟩ := h.rs.rsn i' _ (List.getElem?_eq_getElem cW) h0
                 have := h.pl.inj k k2 d d2 hd q1 (by rw [g2, q2])
                 subst this
                 rw [hd] at q1; injection q1 with q1; subst q1
                 exact Dh (by unfold xz; rw [VU h.pl h.rg h.toWfE hd (fun e => by rw [e] at q3; cases q3) he h0 g2]; rfl)))
end bp
namespace bp
open Go Vc T
open Trail (E St bW upto bZ)
open bt (bg)
theorem wE (S:ES) (s:List Int):(∀(k:Nat) (d:Hd),S.H[k]?=some d->(aY S s).H[k]?=some d)/\(∃d',(aY S s).H[S.H.length]?=some d'/\d'.ls=s/\d'.at_=xy S/\d'.gone=false)/\(aY S s).short=S.short/\(aY S s).aC=S.aC++[S.H.length]:=by
 have h1:∀(k:Nat) (d:Hd),S.H[k]?=some d->(S.H++[dA S s])[k]?=some d:=λk d hk=>by
  rw [List.getElem?_append_left (List.getElem?_eq_some_iff.1 hk).1]; exact hk
 have h2:(S.H++[dA S s])[S.H.length]?=some (dA S s):=by rw [List.getElem?_append_right (Nat.le_refl _),Nat.sub_self]; rfl
 have hl:S.H.length<(S.H++[dA S s]).length:=by rw [List.length_append]; simp
 unfold aY;split
 ·refine ⟨λk d hk=>?_,⟨_,List.getElem?_set_self hl,rfl,rfl,rfl⟩,rfl,rfl⟩;show ((S.H++[dA S s]).set S.H.length _)[k]?=some d;have:=(List.getElem?_eq_some_iff.1 hk).1;rw [List.getElem?_set_ne (by omega)];exact h1 k d hk
 ·exact ⟨h1,⟨_,h2,rfl,rfl,rfl⟩,rfl,rfl⟩
theorem Pl.al2 {S:ES} (h:Pl S) (s:List Int):Pl (aY S s):=by
 have h1:Pl {bp.eU S s with H:=S.H++[dA S s]}:=h.hold (c:=s) (d:=dA S s) rfl λx=>Iff.rfl;have h2:Pl (pz S s):=h1.to rfl λk d hd=>⟨d,hd,rfl,rfl,rfl⟩
 unfold aY;split
 ·exact h2.watch (k:=S.H.length) (d:=dA S s) (by show (S.H++[dA S s])[S.H.length]?=_; rw [List.getElem?_append_right (Nat.le_refl _),Nat.sub_self]; rfl) _ _
 ·exact h2
theorem Inv.gE {S:ES} (h:Inv S) {back:Int} {s:List Int} (g_:S.H.length+1<=8796093022208) (hle:S.aC.length+1<=8796093022208) (bz:s≠[]) (hw:∀x∈s,Wi S.nv x) (pS:s.Nodup) (sr:s.length<=2097153) (wC:0<=back) (uk:back<=S.L.length) (hf:bZ S.nv (upto back S.R) (s.headD 0)=0)
  (hu:∀x∈s,x≠s.headD 0->∃e∈upto back S.R,e.lit=-x):Inv (cU S back s):=by
 obtain ⟨g1,⟨d0,g2,g3,g4,g5⟩,g6,g7⟩:=wE S s;obtain ⟨_,_,e5,_,_⟩:=oJ S s;have jH:∀{k:Nat} {d:Hd},k∈S.short->(aY S s).H[k]?=some d->S.H[k]?=some d:=λ{k d} hk hd=>by
  obtain ⟨d1,tg⟩:=bg (h.sh k hk);have:=g1 k d1 tg;rw [hd] at this; injection this with this; rw [this]; exact tg
 refine ⟨h.toWF.gE g_ hle bz hw pS sr wC uk hf,h.rs.gE h.st wC uk bz hu,(h.pl.al2 s).to rfl λk d hd=>⟨d,hd,rfl,rfl,rfl⟩,λe he h0=>?_,λk hk d hd=>?_,λk hk d hd=>?_,λk hk hh=>?_⟩
 ·have mR:e∈upto back (aY S s).R++[(⟨s.headD 0,((aY S s).L.take back.toNat).length,xy S⟩:E)]:=he;show ∃(k:Nat) (d:Hd),(aY S s).H[k]?=some d/\d.at_=e.rs/\d.gone=false;rcases List.mem_append.1 mR with mR | mR
  ·rw [e5] at mR;obtain ⟨k,d,a,b,c⟩:=h.rg e (List.mem_filter.1 mR).1 h0;exact ⟨k,d,g1 k d a,b,c⟩
  ·rw [List.mem_singleton.1 mR];exact ⟨_,d0,g2,g4,g5⟩
 ·have gq:k∈(aY S s).short:=hk;rw [g6] at gq;exact h.s1 k gq d (jH gq hd)
 ·have gq:k∈(aY S s).short:=hk;rw [g6] at gq;exact h.sg k gq d (jH gq hd)
 ·have gq:k∈(aY S s).short:=hk;have jP:k∈(aY S s).aC:=hh;rw [g6] at gq; rw [g7] at jP;rcases List.mem_append.1 jP with jP | jP
  ·exact h.dj k gq jP
  ·have:=h.sh k gq;rw [List.mem_singleton.1 jP] at this; omega
end bp
namespace bp
open Go Vc T
open Trail (E St bW upto bZ)
open bt (bg)
def Wd (S:ES) (k:Nat) (d:Hd):Prop:=S.H[k]?=some d/\d.gone=false/\1<d.ls.length
def Ob (S:ES) (q:Nat) (u o:Int):Prop:=∀(p:Nat) (e:E),p<q->S.R[p]?=some e->e.lit=-u->∃f∈S.R,f.lit=o/\f.lv<=e.lv
theorem Ob.mono {S:ES} {q q':Nat} {u o:Int} (h:Ob S q u o) (hq:q'<=q):Ob S q' u o:=λp e hp he hl=>h p e (by omega) he hl
structure Iw (S:ES) (q:Nat):Prop where
 hd:q<=S.head
 hl:S.head<=S.R.length
 lv:∀(p:Nat) (e:E),q<=p->S.R[p]?=some e->e.lv=S.L.length
 ey:∀k d,Wd S k d->d.e0∈d.ls/\d.e1∈d.ls/\d.e0≠d.e1
 mm:∀k d,Wd S k d->∀u,u=d.e0\/u=d.e1->k∈ck S (bn u)
 ob:∀k d,Wd S k d->Ob S q d.e0 d.e1/\Ob S q d.e1 d.e0
def Cl (S:ES):Prop:=∃(k:Nat) (d:Hd),S.H[k]?=some d/\d.gone=false/\d.at_=S.bad/\(∀x∈d.ls,∃e∈S.R,e.lit=-x)/\(S.L=[]\/∃x∈d.ls,∃e∈S.R,e.lit=-x/\e.lv=S.L.length)
structure Vw (l:Int) (S:ES) (todo stay:List Nat) (ok:Bool):Prop where
 h1:1<=S.head
 hl:S.head<=S.R.length
 jO:∃e,S.R[S.head - 1]?=some e/\e.lit=-l
 lv:∀(p:Nat) (e:E),S.head - 1<=p->S.R[p]?=some e->e.lv=S.L.length
 ey:∀k d,Wd S k d->d.e0∈d.ls/\d.e1∈d.ls/\d.e0≠d.e1
 m0:∀k d,Wd S k d->l=d.e0\/l=d.e1->k∈todo++stay
 m1:∀k d,Wd S k d->∀u,u=d.e0\/u=d.e1->u≠l->k∈ck S (bn u)
 ob:∀k d,Wd S k d->Ob S (S.head - 1) d.e0 d.e1/\Ob S (S.head - 1) d.e1 d.e0
 oo:ok=true->∀k d,Wd S k d->k∉todo->l=d.e0\/l=d.e1->∃f∈S.R,f.lit=other d l
 cl:ok=false->Cl S
section
variable {l:Int} {S:ES} {k:Nat} {d:Hd} {todo stay:List Nat} {ok:Bool}
theorem Ku (hs:kJ S) {e f:E} (he:e∈S.R) (hf:f∈S.R) (h:e.lit=-f.lit):False:=by
 have h1:=(zF hs he).1;have h2:=(zF hs hf).2;rw [h] at h1; omega
theorem Ob.push {r:Int} {q:Nat} {u o x:Int} (h:Ob S q u o) (hq:q<=S.R.length):Ob (kA S x r) q u o:=λp e hp he hl=>by
 have mR:(S.R++[(⟨x,S.L.length,r⟩:E)])[p]?=some e:=he;rw [List.getElem?_append_left (by omega)] at mR;obtain ⟨f,hf,h1,h2⟩:=h p e hp mR hl;exact ⟨f,List.mem_append_left _ hf,h1,h2⟩
theorem RG {q:Nat} (h:∀(p:Nat) (e:E),q<=p->S.R[p]?=some e->e.lv=S.L.length) (x r:Int):∀(p:Nat) (e:E),q<=p->(kA S x r).R[p]?=some e->e.lv=(kA S x r).L.length:=λp e hp he=>by
 rcases eB (show (S.R++[(⟨x,S.L.length,r⟩:E)])[p]?=some e from he) with ⟨_,h1⟩ | ⟨_,rfl⟩
 ·exact h p e hp h1
 ·rfl
theorem Vw.put (h:Vw l S (k :: todo) stay true) (hd:S.H[k]?=some d) (r:Int):Vw l (kA S (other d l) r) todo (stay++[k]) true:=by
 obtain ⟨e,he,uj⟩:=h.jO;have Bv:=h.hl;have hh1:=h.h1;refine ⟨h.h1,by show S.head<=(S.R++[_]).length; rw [List.length_append]; omega,⟨e,by show (S.R++[_])[S.head - 1]?=some e; rw [List.getElem?_append_left (by omega)]; exact he,uj⟩,RG h.lv _ _,h.ey,λj d' hw hl=>?_,h.m1,λj d' hw=>⟨(h.ob j d' hw).1.push (by omega),(h.ob j d' hw).2.push (by omega)⟩,λ_ j d' hw hj hl=>?_,λh=>by cases h⟩
 ·have:=h.m0 j d' hw hl;simp only [List.cons_append,List.mem_cons,List.mem_append,List.mem_singleton] at this ⊢;rcases this with rfl | hh | hh
  ·exact Or.inr (Or.inr (Or.inl rfl))
  ·exact Or.inl hh
  ·exact Or.inr (Or.inl hh)
 ·by_cases Tk:j=k
  ·subst Tk;have e_:S.H[j]?=some d':=hw.1;rw [hd] at e_; injection e_ with e_; subst e_;exact ⟨⟨other d l,S.L.length,r⟩,List.mem_append_right _ (List.mem_singleton.2 rfl),rfl⟩
  ·obtain ⟨f,hf,kI⟩:=h.oo rfl j d' hw (by simp only [List.mem_cons,not_or]; exact ⟨Tk,hj⟩) hl;exact ⟨f,List.mem_append_left _ hf,kI⟩
theorem Vw.stays (h:Vw l S (k :: todo) stay ok) (mN:ok=true->∀d,Wd S k d->l=d.e0\/l=d.e1->∃f∈S.R,f.lit=other d l):Vw l S todo (stay++[k]) ok:=by
 refine ⟨h.h1,h.hl,h.jO,h.lv,h.ey,λj d' hw hl=>?_,h.m1,h.ob,λho j d' hw hj hl=>?_,h.cl⟩
 ·have:=h.m0 j d' hw hl;simp only [List.cons_append,List.mem_cons,List.mem_append,List.mem_singleton] at this ⊢;rcases this with rfl | hh | hh
  ·exact Or.inr (Or.inr (Or.inl rfl))
  ·exact Or.inl hh
  ·exact Or.inr (Or.inl hh)
 ·by_cases Tk:j=k
  ·subst Tk; exact mN ho d' hw hl
  ·exact h.oo ho j d' hw (by simp only [List.mem_cons,not_or]; exact ⟨Tk,hj⟩) hl
theorem Vw.gone (h:Vw l S (k :: todo) stay ok) (hd:S.H[k]?=some d) (hg:d.gone=true):Vw l S todo stay ok:=by
 have bz:∀j d',Wd S j d'->j≠k:=λj d' hw e=>by
  subst e;have:=hw.1;rw [hd] at this; injection this with this; subst this;have:=hw.2.1; rw [hg] at this; cases this
 refine ⟨h.h1,h.hl,h.jO,h.lv,h.ey,λj d' hw hl=>?_,h.m1,h.ob,λho j d' hw hj hl=>?_,h.cl⟩
 ·have:=h.m0 j d' hw hl;rw [List.cons_append,List.mem_cons] at this;exact this.resolve_left (bz j d' hw)
 ·exact h.oo ho j d' hw (by simp only [List.mem_cons,not_or]; exact ⟨bz j d' hw,hj⟩) hl
theorem Vw.bad (h:Vw l S (k :: todo) stay true) (hd:S.H[k]?=some d) (hg:d.gone=false) (hf:∀x∈d.ls,∃e∈S.R,e.lit=-x) (hl:l∈d.ls):Vw l {S with bad:=d.at_} todo (stay++[k]) false:=by
 obtain ⟨e,he,uj⟩:=h.jO;refine ⟨h.h1,h.hl,h.jO,h.lv,h.ey,λj d' hw hl=>?_,h.m1,h.ob,(λho=>by cases ho),λ_=>⟨k,d,hd,hg,rfl,hf,Or.inr ⟨l,hl,e,List.mem_of_getElem? he,uj,h.lv _ e (Nat.le_refl _) he⟩⟩⟩;have:=h.m0 j d' hw hl;simp only [List.cons_append,List.mem_cons,List.mem_append,List.mem_singleton] at this ⊢;rcases this with rfl | hh | hh
 ·exact Or.inr (Or.inr (Or.inl rfl))
 ·exact Or.inl hh
 ·exact Or.inr (Or.inl hh)
theorem Vw.move (hv:VI l S (k :: todo) stay) (hs:kJ S) (h:Vw l S (k :: todo) stay true) (hd:S.H[k]?=some d) {x:Int} (hx:goal S d l=some x):Vw l (jT S k d l x) todo stay true:=by
 obtain ⟨x1,x2,x3,x4,x5⟩:=Bx hx;obtain ⟨d0,Dn,e1,e2,e3,e4⟩:=hv.td k (by simp);rw [hd] at Dn; injection Dn with Dn; subst Dn;obtain ⟨o1,o2,o3,o4⟩:=lH e4 e3;have pX:=(List.getElem?_eq_some_iff.1 hd).1;have EM:=(hv.wf.hl k d hd).1 x x1;have MC:=fu EM;obtain ⟨e,he,uj⟩:=h.jO;have pq:=List.mem_of_getElem? he;have SP:other d l∈d.ls:=by rcases o1 with o1 | o1<;>rw [o1]; exact e1; exact e2
 have hHk:∀(j:Nat),(S.H.set k {d with e0:=other d l,e1:=x})[j]?=if k=j then some {d with e0:=other d l,e1:=x} else S.H[j]?:=λj=>by
  rw [List.getElem?_set];by_cases f_:k=j
  ·rw [if_pos f_,if_pos pX,if_pos f_]
  ·rw [if_neg f_,if_neg f_]
 have hW:∀j d',Wd (jT S k d l x) j d'->(j≠k/\Wd S j d')\/(j=k/\d'={d with e0:=other d l,e1:=x}/\Wd S k d):=λj d' ⟨w1,w2,w3⟩=>by
  have Yi:(S.H.set k {d with e0:=other d l,e1:=x})[j]?=some d':=w1;rw [hHk] at Yi;by_cases f_:k=j
  ·rw [if_pos f_] at Yi; injection Yi with Yi; subst Yi;exact Or.inr ⟨f_.symm,rfl,hd,w2,w3⟩
  ·rw [if_neg f_] at Yi; exact Or.inl ⟨λe=>f_ e.symm,Yi,w2,w3⟩
 have hli:∀(i j:Nat),j∈ck S i->j∈ck (jT S k d l x) i:=λi j hj=>by
  unfold ck jT at *
  by_cases hi:i=bn x
  ·subst hi;rw [List.getElem?_set_self (by rw [hv.wf.ll]; exact MC)];exact List.mem_append_left _ hj
  ·rw [List.getElem?_set_ne (λe=>hi e.symm)]; exact hj
 have Dq:k∈ck (jT S k d l x) (bn x):=by
  unfold ck jT;rw [List.getElem?_set_self (by rw [hv.wf.ll]; exact MC)];exact List.mem_append_right _ (List.mem_singleton.2 rfl)
 refine ⟨h.h1,h.hl,h.jO,h.lv,λj d' hw=>?_,λj d' hw hl=>?_,λj d' hw u hu QG=>?_,λj d' hw=>?_,λ_ j d' hw hj hl=>?_,λh=>by cases h⟩
 ·rcases hW j d' hw with ⟨_,w⟩ | ⟨_,rfl,w⟩
  ·exact h.ey j d' w
  ·exact ⟨SP,x1,Ne.symm x2⟩
 ·rcases hW j d' hw with ⟨bz,w⟩ | ⟨_,rfl,w⟩
  ·have:=h.m0 j d' w hl;rw [List.cons_append,List.mem_cons] at this;exact this.resolve_left bz
  ·rcases hl with hl | hl
   ·exact absurd hl.symm o2
   ·exact absurd hl.symm x3
 ·rcases hW j d' hw with ⟨_,w⟩ | ⟨Tk,rfl,w⟩
  ·exact hli _ _ (h.m1 j d' w u hu QG)
  ·subst Tk;rcases hu with hu | hu
   ·have Gk:u=other d l:=hu;subst Gk;exact hli _ _ (h.m1 j d w _ o1 QG)
   ·have Gk:u=x:=hu;subst Gk; exact Dq
 ·rcases hW j d' hw with ⟨_,w⟩ | ⟨Tk,rfl,w⟩
  ·exact h.ob j d' w
  ·refine ⟨λp f hp hf hl=>?_,λp f hp hf hl=>?_⟩
   ·have wA:Ob S (S.head - 1) (other d l) l:=by
     have:=h.ob k d w;rcases o1 with o1 | o1
     ·have o4':d.e1=l:=o4.resolve_right λq=>e3 (o1.symm.trans q.symm);rw [o1]; have:=this.1; rw [o4'] at this; exact this
     ·have o3':d.e0=l:=o3.resolve_right λq=>e3 (q.trans o1);rw [o1]; have:=this.2; rw [o3'] at this; exact this
    obtain ⟨g,hg,lX,_⟩:=wA p f hp hf hl;exact (Ku hs pq hg (by rw [uj,lX])).elim
   ·have jh:f.lit=-x:=hl;have:=(zF hs (List.mem_of_getElem? hf)).2;rw [jh,Int.neg_neg] at this;omega
 ·rcases hW j d' hw with ⟨bz,w⟩ | ⟨_,rfl,w⟩
  ·exact h.oo rfl j d' w (by simp only [List.mem_cons,not_or]; exact ⟨bz,hj⟩) hl
  ·rcases hl with hl | hl
   ·exact absurd hl.symm o2
   ·exact absurd hl.symm x3
theorem Vw.step (hv:VI l S (k :: todo) stay) (hs:kJ S) (h:Vw l S (k :: todo) stay ok):Vw l (cv l (S,stay,ok) k).1 todo (cv l (S,stay,ok) k).2.1 (cv l (S,stay,ok) k).2.2:=by
 obtain ⟨d,hd,h0,h1,bz,hw⟩:=hv.td k (by simp);obtain ⟨e,he,uj⟩:=h.jO;have pq:=List.mem_of_getElem? he;obtain ⟨o1,o2,o3,o4⟩:=lH hw bz;have ho:other d l∈d.ls:=by
  rcases o1 with o1 | o1<;>rw [o1]
  ·exact h0
  ·exact h1
 have hl:l∈d.ls:=by rcases hw with hw | hw<;>rw [hw]; exact h0; exact h1
 unfold cv;dsimp only;rw [hd];dsimp only;by_cases hg:d.gone=true
 ·rw [if_pos hg]; exact h.gone hd hg
 rw [if_neg hg];have hg':d.gone=false:=by simpa using hg
 cases ok with
 | false=>rw [if_pos rfl]; exact h.stays λh=>by cases h
 | true=>
  rw [if_neg (by decide)];split
  ·rename_i x hx; exact Vw.move hv hs h hd hx
  ·rename_i hgo;split
   ·rename_i aM;exact h.bad hd hg' (RE hgo aM ⟨e,pq,uj⟩) hl
   ·split
    ·exact h.put hd _
    ·rename_i hn1 hn2;refine h.stays λ_ d' vF _=>?_;have:=vF.1;rw [hd] at this; injection this with this; subst this;exact IF (by rcases jU S (other d l) with q | q | q<;>omega)
theorem Vw.fold:∀(todo:List Nat) (S:ES) (stay:List Nat) (ok:Bool),VI l S todo stay->kJ S->Vw l S todo stay ok->Vw l (todo.foldl (cv l) (S,stay,ok)).1 [] (todo.foldl (cv l) (S,stay,ok)).2.1 (todo.foldl (cv l) (S,stay,ok)).2.2
 | [],S,stay,ok,hv,hs,h=>h
 | k :: todo,S,stay,ok,hv,hs,h=>Vw.fold todo _ _ _ hv.step (Fa hv hs) (Vw.step hv hs h)
end
end bp
namespace bp
open Go Vc T
open Trail (E St bW upto bZ)
open bt (bg)
theorem Vw.start {S:ES} (hw:WfE S) (hs:kJ S) (h:Iw S S.head) {e:E} (he:S.R[S.head]?=some e):Vw (-e.lit) {S with head:=S.head+1,lists:=S.lists.set (bn (-e.lit)) []} (ck S (bn (-e.lit))) [] true:=by
 have aM:=(List.getElem?_eq_some_iff.1 he).1;have ZH:Wi S.nv (-e.lit):=jC (gN (hs.own e (List.mem_of_getElem? he)));refine ⟨Nat.le_add_left _ _,aM,⟨e,he,by omega⟩,h.lv,h.ey,λk d hd hl=>?_,λk d hd u hu bz=>?_,h.ob,λ_ k d hd hk hl=>absurd (h.mm k d hd _ hl) hk,λh=>by cases h⟩
 ·rw [List.append_nil]; exact h.mm k d hd _ hl
 ·have hk:=h.mm k d hd u hu;have Gk:Wi S.nv u:=by
   obtain ⟨e0,e1,_⟩:=h.ey k d hd;rcases hu with hu | hu<;>rw [hu]
   ·exact (hw.hl k d hd.1).1 _ e0
   ·exact (hw.hl k d hd.1).1 _ e1
  show k∈(S.lists.set (bn (-e.lit)) [])[bn u]?.getD [];rw [List.getElem?_set_ne (λq=>bz (jR hw.nv ZH Gk q).symm)]; exact hk
theorem Vw.done {S:ES} {l:Int} {stay:List Nat} {ok:Bool} (hv:VI l S [] stay) (hs:kJ S) (h:Vw l S [] stay ok):Iw {S with lists:=S.lists.set (bn l) stay} (if ok=true then S.head else S.head - 1):=by
 obtain ⟨e,he,uj⟩:=h.jO;have h1:=h.h1;have aM:=fu hv.Oc;refine ⟨by split<;>simp,h.hl,λp f hp hf=>h.lv p f (by split at hp<;>omega) hf,h.ey,λk d hd u hu=>?_,λk d hd=>?_⟩
 ·have Gk:Wi S.nv u:=by
   obtain ⟨e0,e1,_⟩:=h.ey k d hd;rcases hu with hu | hu<;>rw [hu]
   ·exact (hv.wf.hl k d hd.1).1 _ e0
   ·exact (hv.wf.hl k d hd.1).1 _ e1
  show k∈(S.lists.set (bn l) stay)[bn u]?.getD [];by_cases QG:u=l
  ·subst QG;rw [List.getElem?_set_self (by rw [hv.wf.ll]; exact aM)];have:=h.m0 k d hd hu;rwa [List.nil_append] at this
  ·rw [List.getElem?_set_ne (λq=>QG (jR hv.wf.nv hv.Oc Gk q).symm)];exact h.m1 k d hd u hu QG
 ·have wA:=h.ob k d hd;cases ok with
  | false=>rw [if_neg (by decide)]; exact wA
  | true=>
   rw [if_pos rfl];have key:∀u o,(u=d.e0\/u=d.e1)->(u=l->other d l=o)->Ob S (S.head - 1) u o->Ob S S.head u o:=λu o hu ho hb p f hp hf kI=>by
    by_cases hp1:p<S.head - 1
    ·exact hb p f hp1 hf kI
    ·have:p=S.head - 1:=by omega
     subst this;rw [he] at hf; injection hf with hf; subst hf;have QG:u=l:=by omega
     have zH:l=d.e0\/l=d.e1:=by rw [<-QG]; exact hu
     obtain ⟨g,hg,lX⟩:=h.oo rfl k d hd (by simp) zH;refine ⟨g,hg,lX.trans (ho QG),?_⟩;rw [h.lv _ e (Nat.le_refl _) he];exact (hs.lvl g hg).2
   obtain ⟨_,_,bz⟩:=h.ey k d hd;exact ⟨key _ _ (Or.inl rfl) (λq=>by unfold other; rw [if_pos q]) wA.1,key _ _ (Or.inr rfl) (λq=>by unfold other; rw [if_neg (λq'=>bz (q'.trans q.symm))]) wA.2⟩
theorem Iw.visit {S:ES} (hw:WfE S) (hs:kJ S) (h:Iw S S.head) {e:E} (he:S.R[S.head]?=some e) :
  ((visit {S with head:=S.head+1} (-e.lit)).2=true->Iw (visit {S with head:=S.head+1} (-e.lit)).1 (S.head+1))/\
  ((visit {S with head:=S.head+1} (-e.lit)).2=false->Iw (visit {S with head:=S.head+1} (-e.lit)).1 S.head/\Cl (visit {S with head:=S.head+1} (-e.lit)).1):=by
 have ZH:Wi S.nv (-e.lit):=jC (gN (hs.own e (List.mem_of_getElem? he)));have vF:WfE {S with head:=S.head+1}:=hw.self (S.head+1) S.rest S.aQ S.dead S.bad;have hv:=VI.start (S:={S with head:=S.head+1}) vF ZH;have hV:=Vw.fold (l:=-e.lit) _ _ _ _ hv hs (Vw.start hw hs h he);have hv2:=CL _ _ _ true hv;have To:=CU _ _ _ true hv hs;have hd:=Vw.done hv2 To hV;have hf:=CK (-e.lit) (ck {S with head:=S.head+1} (bn (-e.lit))) ({S with head:=S.head+1,lists:=S.lists.set (bn (-e.lit)) []},[],true);have hh:(lG {S with head:=S.head+1} (-e.lit)).1.head=S.head+1:=hf.head;unfold bp.visit;refine ⟨λho=>?_,λho=>?_⟩
 ·have DQ:(lG {S with head:=S.head+1} (-e.lit)).2.2=true:=ho;have e_:Iw _ (if (lG {S with head:=S.head+1} (-e.lit)).2.2=true then (lG {S with head:=S.head+1} (-e.lit)).1.head else (lG {S with head:=S.head+1} (-e.lit)).1.head - 1):=hd;rw [if_pos DQ,hh] at e_;exact e_
 ·have DQ:(lG {S with head:=S.head+1} (-e.lit)).2.2=false:=ho;have e_:Iw _ (if (lG {S with head:=S.head+1} (-e.lit)).2.2=true then (lG {S with head:=S.head+1} (-e.lit)).1.head else (lG {S with head:=S.head+1} (-e.lit)).1.head - 1):=hd;rw [if_neg (by rw [DQ]; decide),hh] at e_;exact ⟨e_,hV.cl DQ⟩
theorem zI:∀(n:Nat) (S:ES),WfE S->kJ S->Iw S S.head->S.nv<=n+S.head->((bu n S).2=true->Iw (bu n S).1 (bu n S).1.head/\(bu n S).1.head=(bu n S).1.R.length)/\((bu n S).2=false->∃q,Iw (bu n S).1 q/\Cl (bu n S).1)
 | 0,S,hw,hs,h,hn=>⟨λ_=>⟨h,by have:=hs.len; have:=h.hl; show S.head=S.R.length; omega⟩,λh=>by cases h⟩
 | n+1,S,hw,hs,h,hn=>by
  unfold bu;cases he:S.R[S.head]? with
  | none=>
   refine ⟨λ_=>⟨h,?_⟩,λh=>by cases h⟩;have:=List.getElem?_eq_none_iff.1 he;have:=h.hl;show S.head=S.R.length;omega
  | some e=>
   dsimp only;have sH:Wi S.nv (-e.lit):=jC (gN (hs.own e (List.mem_of_getElem? he)));have vF:WfE {S with head:=S.head+1}:=hw.self (S.head+1) S.rest S.aQ S.dead S.bad;obtain ⟨v1,v2⟩:=Iw.visit hw hs h he;have hf:=uS {S with head:=S.head+1} (-e.lit);have xq:(visit {S with head:=S.head+1} (-e.lit)).1.head=S.head+1:=hf.head;have dS:(visit {S with head:=S.head+1} (-e.lit)).1.nv=S.nv:=hf.nv;split
   ·rename_i ho;exact zI n _ (vF.visit sH) (u_ (S:={S with head:=S.head+1}) vF hs sH) (by rw [xq]; exact v1 ho) (by rw [xq,dS]; omega)
   ·rename_i ho;exact ⟨λh=>absurd h ho,λh=>⟨_,v2 h⟩⟩
def T0 (S:ES) (d:Hd):Prop:=∃x∈d.ls,∃f∈S.R,f.lit=x/\f.lv=0
theorem T0.fr {S S':ES} (hf:Fr S S') {k:Nat} {d':Hd} (hd:S'.H[k]?=some d') (h:∀d,S.H[k]?=some d->T0 S d):T0 S' d':=by
 obtain ⟨d,h1,h2,_⟩:=hf.pW k d' hd;obtain ⟨x,hx,f,E_,Fc⟩:=h d h1;obtain ⟨X,hX⟩:=hf.R;exact ⟨x,by rw [h2]; exact hx,f,by rw [hX]; exact List.mem_append_left _ E_,Fc⟩
theorem Iw.put {S:ES} {q:Nat} (h:Iw S q) (x r:Int):Iw (kA S x r) q:=
 ⟨h.hd,by show S.head<=(S.R++[_]).length; rw [List.length_append]; have:=h.hl; omega,RG h.lv _ _,h.ey,h.mm,λk d hd=>⟨(h.ob k d hd).1.push (by have:=h.hd; have:=h.hl; omega),(h.ob k d hd).2.push (by have:=h.hd; have:=h.hl; omega)⟩⟩
theorem Iw.bad {S:ES} {q:Nat} (h:Iw S q) (x:Int):Iw {S with bad:=x} q:=⟨h.hd,h.hl,h.lv,h.ey,h.mm,h.ob⟩
theorem MO {S:ES} (hs:kJ S) {k:Nat} {d:Hd} (hL:S.L=[]) (hd:S.H[k]?=some d) (hg:d.gone=false) (hl:d.ls.length<2) {q:Nat} (h:Iw S q) :
  Iw (single S d).1 q/\((single S d).2=true->T0 (single S d).1 d)/\((single S d).2=false->Cl (single S d).1):=by
 have l0:∀e∈S.R,e.lv=0:=λe he=>by have:=hs.lvl e he; rw [hL] at this; simp at this; omega
 unfold single;split
 ·rename_i l hf;have hl:=List.mem_of_find?_eq_some hf;split
  ·rename_i h1;obtain ⟨e,he,uj⟩:=IF h1;exact ⟨h,λ_=>⟨l,hl,e,he,uj,l0 e he⟩,λh=>by cases h⟩
  ·exact ⟨h.put _ _,λ_=>⟨l,hl,⟨l,S.L.length,d.at_⟩,List.mem_append_right _ (List.mem_singleton.2 rfl),rfl,by rw [hL]; rfl⟩,λh=>by cases h⟩
 ·rename_i hf;refine ⟨h.bad _,(λh=>by cases h),λ_=>⟨k,d,hd,hg,rfl,λx hx=>zD (S:=S) ?_,Or.inl hL⟩⟩;have:=List.find?_eq_none.1 hf x hx;simp only [decide_eq_true_eq] at this;rcases jU S x with q | q | q<;>omega
theorem zJ {q:Nat} : ∀(ids:List Nat) (acc:ES×Bool),WfE acc.1->kJ acc.1->acc.1.L=[]->acc.2=true->Iw acc.1 q->(∀k∈ids,k<acc.1.H.length)->(∀k∈ids,∀d,acc.1.H[k]?=some d->d.ls.length<2/\d.gone=false)->
  Iw (ids.foldl dz acc).1 q/\((ids.foldl dz acc).2=true->∀k∈ids,∀d,(ids.foldl dz acc).1.H[k]?=some d->T0 (ids.foldl dz acc).1 d)/\((ids.foldl dz acc).2=false->Cl (ids.foldl dz acc).1)
 | [],acc,hw,hs,hL,ht,h,hk,BC=>⟨h,(λ_ k hk=>by cases hk),λhh=>by rw [List.foldl_nil,ht] at hh; cases hh⟩
 | k :: ids,acc,hw,hs,hL,ht,h,hk,BC=>by
  rw [List.foldl_cons];obtain ⟨d,hd⟩:=bg (hk k (by simp));obtain ⟨a,_,_,b⟩:=hw.hl k d hd;obtain ⟨hl,hg⟩:=BC k (by simp) d hd;obtain ⟨s1,s2,s3⟩:=MO hs hL hd hg hl h;have e1:dz acc k=single acc.1 d:=by
   unfold dz;rw [if_neg (by rw [ht]; decide),hd]
  have f1:=wm acc.1 d;rw [e1];by_cases ho:(single acc.1 d).2=true
  ·obtain ⟨r1,r2,r3⟩:=zJ ids (single acc.1 d) (hw.single d) (BF hs a b) (f1.L.trans hL) ho s1 (λj hj=>by rw [f1.hlen]; exact hk j (List.mem_cons_of_mem _ hj)) (λj hj d' e_=>by
    obtain ⟨d0,h0,g1,_,g2⟩:=f1.pW j d' e_;rw [g1,g2]; exact BC j (List.mem_cons_of_mem _ hj) d0 h0)
   refine ⟨r1,λmN j hj d' e_=>?_,r3⟩;rcases List.mem_cons.1 hj with rfl | hj
   ·refine T0.fr (nM ids (single acc.1 d)) e_ λd0 h0=>?_;obtain ⟨d1,h1,g1,_,_⟩:=f1.pW j d0 h0;rw [hd] at h1; injection h1 with h1; subst h1;obtain ⟨x,hx,r⟩:=s2 ho;exact ⟨x,by rw [g1]; exact hx,r⟩
   ·exact r2 mN j hj d' e_
  ·have DQ:(single acc.1 d).2=false:=by simpa using ho
   have iL:∀(js:List Nat) (a:ES×Bool),a.2=false->js.foldl dz a=a:=λjs=>by
    induction js with
    | nil=>exact λa _=>rfl
    | cons j js ih=>exact λa ha=>by rw [List.foldl_cons,show dz a j=a by unfold dz; rw [if_pos ha],ih a ha]
   rw [iL ids _ DQ];exact ⟨s1,λh=>absurd h ho,s3⟩
structure Iz (S:ES):Prop extends Inv S where
 iw:∃q,Iw S q/\(S.aQ=false->S.dead=false->q=S.head)
 un:∀k∈S.aC,∀d,S.H[k]?=some d->d.ls.length<2->T0 S d
 ss:(S.L≠[]\/S.rest=true)->∀k∈S.short,∀d,S.H[k]?=some d->T0 S d
 re:S.rest=true->S.aQ=false/\S.dead=false/\S.head=S.R.length
 kl:S.aQ=true->S.dead=false/\Cl S
theorem Iz.spread {S:ES} (h:Iz S):Iz (spread S).1:=by
 have hI:=h.toInv.spread;by_cases h0:(S.dead || S.aQ)=true
 ·have:bp.spread S=(S,false):=by unfold bp.spread; rw [if_pos h0]
  rw [this]; exact h
 have hd:S.dead=false:=by cases h1:S.dead<;>simp_all
 have hc:S.aQ=false:=by cases h1:S.aQ<;>simp_all
 obtain ⟨q,hq,Lu⟩:=h.iw;rw [Lu hc hd] at hq
 -- yf short clauses
 have BC:WfE (aV S).1/\kJ (aV S).1/\Fr S (aV S).1/\Iw (aV S).1 (aV S).1.head/\((aV S).2=true->∀k∈S.short,∀d,(aV S).1.H[k]?=some d->T0 (aV S).1 d)/\((aV S).2=false->Cl (aV S).1):=by
  unfold aV;split
  ·rename_i hL;have Tp:S.L=[]:=List.eq_nil_of_length_eq_zero hL;have h1:=kK S.short (S,true) h.toWfE h.st;obtain ⟨a,b,c⟩:=zJ (q:=S.head) S.short (S,true) h.toWfE h.st Tp rfl hq h.sh (λk hk d hd=>⟨h.s1 k hk d hd,h.sg k hk d hd⟩);have hf:=nM S.short (S,true);exact ⟨h1.1,h1.2,hf,by rw [hf.head]; exact a,b,c⟩
  ·rename_i hL;exact ⟨h.toWfE,h.st,Fr.refl _,hq,λ_=>h.ss (Or.inl λe=>hL (by rw [e]; rfl)),λh=>by cases h⟩
 obtain ⟨a1,a2,a3,a4,a5,a6⟩:=BC;obtain ⟨b1,b2,b3⟩:=mI S.nv (aV S).1 a1 a2;obtain ⟨c1,c2⟩:=zI S.nv (aV S).1 a1 a2 a4 (by rw [a3.nv]; omega);have SN:(bp.spread S).1.dead=S.dead:=hI.2.dead;have hLL:(bp.spread S).1.L=S.L:=hI.2.L;have Xc:(bp.spread S).1.short=S.short:=hI.2.short;have hle:(bp.spread S).1.aC=S.aC:=hI.2.aC;have un:∀k∈(bp.spread S).1.aC,∀d,(bp.spread S).1.H[k]?=some d->d.ls.length<2->T0 (bp.spread S).1 d:=λk hk d hd hl=>by
  rw [hle] at hk;refine T0.fr hI.2 hd λd0 h0=>?_;obtain ⟨d1,h1,g1,_⟩:=hI.2.pW k d hd;have:d1=d0:=by have h0':S.H[k]?=some d0:=h0; have Hp:S.H[k]?=some d1:=h1; rw [h0'] at Hp; injection Hp with Hp; exact Hp.symm
  subst this;exact h.un k hk _ h0 (by rw [<-g1]; exact hl)
 have hss:S.L≠[]->∀k∈(bp.spread S).1.short,∀d,(bp.spread S).1.H[k]?=some d->T0 (bp.spread S).1 d:=λbz k hk d hd=>by
  rw [Xc] at hk;exact T0.fr hI.2 hd λd0 h0=>h.ss (Or.inl bz) k hk d0 h0
 refine ⟨hI.1,?_,un,?_,?_,?_⟩;all_goals (
  unfold bp.spread at hss ⊢;rw [if_neg h0] at hss ⊢;dsimp only at hss ⊢;by_cases o1:(aV S).2=true
  ·rw [if_pos o1] at hss ⊢;by_cases o2:(bu S.nv (aV S).1).2=true
   ·obtain ⟨e1,e2⟩:=c1 o2;first
    | exact ⟨_,⟨e1.hd,e1.hl,e1.lv,e1.ey,e1.mm,e1.ob⟩,λ_ _=>rfl⟩
    | exact λ_=>⟨by rw [o2]; rfl,b3.dead.trans (a3.dead.trans hd),e2⟩
    | exact λhh=>absurd hh (by rw [o2]; decide)
    | exact λ_ k hk d hd=>T0.fr b3 hd λd0 h0=>a5 o1 k (by
      have gq:k∈(bu S.nv (aV S).1).1.short:=hk;rw [b3.short] at gq;have gq:k∈(aV S).1.short:=gq;rwa [a3.short] at gq) d0 h0
   ·have o2':(bu S.nv (aV S).1).2=false:=by simpa using o2
    obtain ⟨q,e1,e2⟩:=c2 o2';first
    | exact ⟨q,⟨e1.hd,e1.hl,e1.lv,e1.ey,e1.mm,e1.ob⟩,λhh=>absurd hh (by rw [o2']; decide)⟩
    | exact λhh=>absurd hh o2
    | exact λ_=>⟨b3.dead.trans (a3.dead.trans hd),e2⟩
    | exact λhh=>hss (hh.elim (λhh e=>hh (b3.L.trans (a3.L.trans e))) λhh=>absurd hh o2)
  ·have o1':(aV S).2=false:=by simpa using o1
   rw [if_neg o1] at hss ⊢;first
   | exact ⟨_,⟨a4.hd,a4.hl,a4.lv,a4.ey,a4.mm,a4.ob⟩,λ_ _=>rfl⟩
   | exact λhh=>absurd hh o1
   | exact λ_=>⟨a3.dead.trans hd,a6 o1'⟩
   | exact λhh=>hss (hh.elim (λhh e=>hh (a3.L.trans e)) λhh=>absurd hh o1))
end bp
namespace bp
open Go Vc T
open Trail (E St bW upto bZ)
open dw (fl bx Td sY)
open bt (bg)
theorem wF (S:ES) (l:Int) (k:Nat) {i j:Nat} (h:j∈ck S i):j∈ck (kj S l k) i:=by
 show j∈(S.lists.set (bn l) (ck S (bn l)++[k]))[i]?.getD [];rw [List.getElem?_set];split
 ·rename_i hi;subst hi;split
  ·exact List.mem_append_left _ h
  ·rename_i aM;have:S.lists[bn l]?=none:=List.getElem?_eq_none_iff.2 (by omega);unfold ck at h; rw [this] at h; exact h
 ·exact h
theorem Fe {S:ES} {l:Int} (k:Nat) (h:bn l<S.lists.length):k∈ck (kj S l k) (bn l):=by
 show k∈(S.lists.set (bn l) (ck S (bn l)++[k]))[bn l]?.getD [];rw [List.getElem?_set_self h];exact List.mem_append_right _ (List.mem_singleton.2 rfl)
def Em (S:ES) (ex:Nat->Prop):Prop:=∀k d,Wd S k d->¬ex k->(d.e0∈d.ls/\d.e1∈d.ls/\d.e0≠d.e1)/\∀u,u=d.e0\/u=d.e1->k∈ck S (bn u)
theorem Em.watch {S:ES} {k:Nat} {d:Hd} {a c:Int} (h:Em S (·=k)) (hd:S.H[k]?=some d) (ha:a∈d.ls) (hc:c∈d.ls) (bz:a≠c) (Yj:bn a<S.lists.length) (hlc:bn c<S.lists.length):Em (gC S k d a c) (λ_=>False):=by
 have pX:=(List.getElem?_eq_some_iff.1 hd).1;have up:∀{i j:Nat},j∈ck S i->j∈ck (gC S k d a c) i:=λhj=>wF _ _ _ (wF _ _ _ hj);intro j d' hw _;have uN:(S.H.set k {d with e0:=a,e1:=c})[j]?=some d':=hw.1;rw [List.getElem?_set] at uN;by_cases f_:k=j
 ·subst f_;rw [if_pos rfl,if_pos pX] at uN;injection uN with uN; subst uN;refine ⟨⟨ha,hc,bz⟩,λu hu=>?_⟩;rcases hu with hu | hu
  ·have:u=a:=hu;subst this;exact wF _ _ _ (Fe k Yj)
  ·have:u=c:=hu;subst this;exact Fe k (by show _<(S.lists.set _ _).length; rw [List.length_set]; exact hlc)
 ·rw [if_neg f_] at uN;obtain ⟨g1,g2⟩:=h j d' ⟨uN,hw.2.1,hw.2.2⟩ (λe=>f_ e.symm);exact ⟨g1,λu hu=>up (g2 u hu)⟩
theorem Em.snoc {S S':ES} {d:Hd} (h:Em S (λ_=>False)) (hH:S'.H=S.H++[d]) (hl:S'.lists=S.lists):Em S' (·=S.H.length):=by
 intro j d' hw bz;have uN:=hw.1;rw [hH] at uN;rcases eB uN with ⟨_,h1⟩ | ⟨e,_⟩
 ·obtain ⟨g1,g2⟩:=h j d' ⟨h1,hw.2.1,hw.2.2⟩ (λe=>e);exact ⟨g1,λu hu=>by have:=g2 u hu; unfold ck at this ⊢; rw [hl]; exact this⟩
 ·exact absurd e bz
theorem Em.cG {S:ES} (h:Em S (λ_=>False)) (hw:WfS S) {c:List Int} (hc:∀x∈c,Wi S.nv x):Em (cG S c) (λ_=>False):=by
 have hf:∀x∈c,fl x=true:=λx hx=>iA hw.nv (hc x hx);have hT:=lI hf;have N5:∀x∈dL c,Wi S.nv x:=λx hx=>hc x ((hT.mem x).1 hx).1;have su:(S.H++[cE S c])[S.H.length]?=some (cE S c):=by rw [List.getElem?_append_right (Nat.le_refl _),Nat.sub_self]; rfl
 unfold bp.cG;split
 ·exact h
 ·split
  ·rename_i aM;have h1:=Em.snoc (S':={eU S c with H:=S.H++[cE S c],short:=S.short++[S.H.length]}) h rfl rfl;intro j d' Xg _;refine h1 j d' Xg λe=>?_;have uN:(S.H++[cE S c])[j]?=some d':=Xg.1;rw [e,su] at uN;injection uN with uN;have:=Xg.2.2;rw [<-uN] at this;have age:(cE S c).ls.length<2:=aM;omega
  ·rename_i aM;obtain ⟨a,b,rest,e⟩:∃a b rest,dL c=a :: b :: rest:=by
    match SY:dL c with
    | []=>rw [SY] at aM; simp at aM
    | [x]=>rw [SY] at aM; simp at aM
    | a :: b :: rest=>exact ⟨a,b,rest,rfl⟩
   have ha:a∈dL c:=by rw [e]; simp
   have hb:b∈dL c:=by rw [e]; simp
   have pS:=wD hT.S5;rw [e,List.nodup_cons] at pS;have e1:(dL c).headD 0=a:=by rw [e]; rfl
   have e2:(dL c).tail.headD 0=b:=by rw [e]; rfl
   rw [e1,e2];exact Em.watch (S:={eU S c with H:=S.H++[cE S c]}) (Em.snoc (S':={eU S c with H:=S.H++[cE S c]}) h rfl rfl) su ha hb (λq=>pS.1 (by rw [q]; simp)) (by show _<S.lists.length; rw [hw.ll]; exact fu (N5 a ha)) (by show _<S.lists.length; rw [hw.ll]; exact fu (N5 b hb))
theorem VX {nv:Nat} (dS:nv<=1048576) {av:List (List Int)} (hn:av.length<=1048576) (hl:∀es∈av,es.length<=1048576) (hw:∀es∈av,∀x∈es,Wi nv x):Iz (jc nv av):=by
 have key:∀i,i<=av.length->NI ((av.take i).foldl cG (E0 nv)) i/\((av.take i).foldl cG (E0 nv)).nv=nv/\Em ((av.take i).foldl cG (E0 nv)) (λ_=>False):=λi=>by
  induction i with
  | zero=>exact λ_=>⟨ni0 dS,rfl,λk d hd=>by have:=hd.1; simp [E0] at this⟩
  | succ i ih=>
   intro hi;obtain ⟨h1,h2,h3⟩:=ih (by omega);obtain ⟨es,oH⟩:=bg (show i<av.length by omega);have pq:=List.mem_of_getElem? oH;rw [cm oH,List.foldl_append];obtain ⟨_,r0,_,_⟩:=rP ((av.take i).foldl cG (E0 nv)) es;exact ⟨h1.step (by rw [h2]; exact hw es pq) (hl es pq) (by omega),r0.trans h2,h3.cG h1.wf (by rw [h2]; exact hw es pq)⟩
 have hk:=(key av.length (Nat.le_refl _)).2.2;rw [List.take_length] at hk;obtain ⟨_,_,hR,hL,hLe,_,xq,Jx,g_,hde⟩:=oI dS hn hl hw;refine ⟨RF dS hn hl hw,⟨0,⟨Nat.zero_le _,by rw [xq]; exact Nat.zero_le _,λp e _ he=>by rw [hR] at he; simp at he,λk d hd=>(hk k d hd λh=>h).1,λk d hd=>(hk k d hd λh=>h).2,λk d hd=>⟨λp e hp=>by omega,λp e hp=>by omega⟩⟩,λ_ _=>xq.symm⟩,(λk hk=>by rw [hLe] at hk; cases hk),λhh=>?_,(λhh=>by rw [Jx] at hh; cases hh),λhh=>by rw [g_] at hh; cases hh⟩;rcases hh with hh | hh
 ·exact absurd hL hh
 ·rw [Jx] at hh; cases hh
theorem c_ {k:Int} {R:List E} {f:E} : f∈upto k R↔f∈R/\f.lv<=k:=by unfold upto; rw [List.mem_filter,decide_eq_true_eq]
theorem T0.cut {S:ES} {d:Hd} (h:T0 S d) {k:Int} (hk:0<=k):T0 (fE S k) d:=by
 obtain ⟨x,hx,f,hf,e1,e2⟩:=h;exact ⟨x,hx,f,c_.2 ⟨hf,by omega⟩,e1,e2⟩
theorem CX {S:ES} (hs:kJ S) {k:Int} (qD:0<=k) (hk:k<S.L.length) {q:Nat} (Ff:∀(p:Nat) (e:E),q<=p->S.R[p]?=some e->e.lv=S.L.length):(upto k S.R).length<=q:=by
 rcases Nat.lt_or_ge q (upto k S.R).length with h | h
 ·exfalso;obtain ⟨e,he⟩:=bg h;have h1:=c_.1 (List.mem_of_getElem? he);rw [(jD hs qD (Int.le_of_lt hk)).1,List.getElem?_take] at he;split at he
  ·have:=Ff q e (Nat.le_refl _) he; omega
  ·cases he
 ·exact h
theorem Iw.cut {S:ES} {q:Nat} (hs:kJ S) (h:Iw S q) {k:Int} (qD:0<=k) (hk:k<=S.L.length) (hq:k<S.L.length\/q=S.head):Iw (fE S k) (fE S k).head:=by
 have Kw:=jD hs qD hk;have hqq:(fE S k).head<=q/\(∀(p:Nat) (e:E),(fE S k).head<=p->(fE S k).R[p]?=some e->e.lv=(fE S k).L.length):=by
  rcases hq with hq | hq
  ·have h1:=CX hs qD hq h.lv;refine ⟨Nat.le_trans (Nat.min_le_right _ _) h1,λp e hp he=>?_⟩;have:(upto k S.R).length<=p:=by
    have h2:(fE S k).head=(upto k S.R).length:=Nat.min_eq_right (Nat.le_trans h1 h.hd);omega
   rw [show (fE S k).R=upto k S.R from rfl,List.getElem?_eq_none_iff.2 this] at he;cases he
  ·subst hq;refine ⟨Nat.min_le_left _ _,λp e hp he=>?_⟩;by_cases pX:k<S.L.length
   ·have h1:=CX hs qD pX h.lv;have:(upto k S.R).length<=p:=by
     have h2:(fE S k).head=(upto k S.R).length:=Nat.min_eq_right h1;omega
    rw [show (fE S k).R=upto k S.R from rfl,List.getElem?_eq_none_iff.2 this] at he;cases he
   ·have hkk:(S.L.length:Int)<=k:=by omega
    obtain ⟨_,u2⟩:=Trail.rH hs hkk;have e1:(fE S k).R=S.R:=u2;have e2:(fE S k).head=S.head:=by show min S.head (upto k S.R).length=_; rw [u2]; exact Nat.min_eq_left h.hl
    have e3:(fE S k).L=S.L:=by show S.L.take k.toNat=_; exact List.take_of_length_le (by omega)
    rw [e1] at he; rw [e2] at hp; rw [e3];exact h.lv p e hp he
 refine ⟨Nat.le_refl _,Nat.min_le_right _ _,hqq.2,h.ey,h.mm,λj d hd=>?_⟩;have key:∀u o,Ob S q u o->Ob (fE S k) (fE S k).head u o:=λu o wA p e hp he hl=>by
  have mR:(upto k S.R)[p]?=some e:=he;have hm:=c_.1 (List.mem_of_getElem? mR);rw [Kw.1,List.getElem?_take] at mR;split at mR
  ·obtain ⟨f,hf,h1,h2⟩:=wA p e (by have:=hqq.1; omega) mR hl;exact ⟨f,c_.2 ⟨hf,by omega⟩,h1,h2⟩
  ·cases mR
 exact ⟨key _ _ (h.ob j d hd).1,key _ _ (h.ob j d hd).2⟩
theorem Iz.dec {S:ES} (h:Iz S) (l:Int):Iz (dG S l):=by
 have hI:=h.toInv.dec l;by_cases hA:iH S l=0
 ·have Jx:S.rest=true:=by
   unfold iH at hA;split at hA
   ·cases hA
   ·split at hA
    ·cases hA
    ·rename_i hr; cases Ko:S.rest<;>simp_all
  obtain ⟨hc,hd,xq⟩:=h.re Jx;obtain ⟨q,hq,Lu⟩:=h.iw;rw [Lu hc hd] at hq;have up:∀d,T0 S d->T0 {S with R:=S.R++[(⟨l,(S.L.length+1:Nat), -1⟩:E)],L:=S.L++[(S.R.length:Int)],rest:=false} d:=λd ⟨x,hx,f,hf,r⟩=>⟨x,hx,f,List.mem_append_left _ hf,r⟩
  unfold dG at hI ⊢;rw [if_pos hA] at hI ⊢;refine ⟨hI,⟨S.head,⟨Nat.le_refl _,by show S.head<=(S.R++[_]).length; rw [List.length_append]; have:=hq.hl; omega,λp e hp he=>?_,hq.ey,hq.mm,λj d hw=>?_⟩,λ_ _=>rfl⟩,λk hk d hd hl=>up d (h.un k hk d hd hl),λ_ k hk d hd=>up d (h.ss (Or.inr Jx) k hk d hd),(λhh=>by cases hh),λhh=>absurd hh (by rw [show ({S with R:=S.R++[(⟨l,(S.L.length+1:Nat), -1⟩:E)],L:=S.L++[(S.R.length:Int)],rest:=false} : ES).aQ=S.aQ from rfl,hc]; decide)⟩
  ·rcases eB (show (S.R++[(⟨l,(S.L.length+1:Nat), -1⟩:E)])[p]?=some e from he) with ⟨h1,_⟩ | ⟨_,rfl⟩
   ·omega
   ·show ((S.L.length+1:Nat):Int)=((S.L++[(S.R.length:Int)]).length:Nat);rw [List.length_append]; rfl
  ·have key:∀u o,Ob S S.head u o->Ob {S with R:=S.R++[(⟨l,(S.L.length+1:Nat), -1⟩:E)],L:=S.L++[(S.R.length:Int)],rest:=false} S.head u o:=λu o wA p e hp he hl=>by
    have mR:(S.R++[(⟨l,(S.L.length+1:Nat), -1⟩:E)])[p]?=some e:=he;rw [List.getElem?_append_left (by omega)] at mR;obtain ⟨f,hf,r⟩:=wA p e hp mR hl;exact ⟨f,List.mem_append_left _ hf,r⟩
   exact ⟨key _ _ (hq.ob j d hw).1,key _ _ (hq.ob j d hw).2⟩
 ·unfold dG; rw [if_neg hA]; exact h
def aR (S:ES):Int×ES:=if (S.aQ || S.dead)=true then (3,S) else (0,{fE S 0 with rest:=false})
theorem Iz.aR {S:ES} (h:Iz S):Iz (aR S).2:=by
 unfold bp.aR;split
 ·exact h
 ·rename_i h0;have hc:S.aQ=false:=by cases h1:S.aQ<;>simp_all
  have hd:S.dead=false:=by cases h1:S.dead<;>simp_all
  obtain ⟨q,hq,Lu⟩:=h.iw;have hI:=h.toInv.cut (k:=0) (by omega) (by omega);have hw:=hq.cut h.st (k:=0) (by omega) (by omega) (Or.inr (Lu hc hd));refine ⟨⟨hI.toWF.self _ false S.aQ S.dead S.bad,hI.rs.to rfl λk d hd=>⟨d,hd,rfl,rfl⟩,hI.pl.to rfl λk d hd=>⟨d,hd,rfl,rfl,rfl⟩,hI.rg,hI.s1,hI.sg,hI.dj⟩,⟨(fE S 0).head,⟨hw.hd,hw.hl,hw.lv,hw.ey,hw.mm,hw.ob⟩,λ_ _=>rfl⟩,λk hk d hd hl=>T0.cut (h.un k hk d hd hl) (Int.le_refl _),λhh=>?_,(λhh=>by cases hh),λhh=>?_⟩
  ·rcases hh with hh | hh
   ·exact absurd (show S.L.take 0=[] from rfl) hh
   ·cases hh
  ·have:S.aQ=true:=hh;rw [hc] at this; cases this
theorem Fg {S:ES} (i:Int):(forget S i).2=S\/S.rest=true:=by
 unfold forget;split
 ·exact Or.inl rfl
 ·rename_i h; exact Or.inr (by cases h2:S.rest<;>simp_all)
theorem Iz.forget {S:ES} (h:Iz S) (i:Int):Iz (forget S i).2:=by
 have hI:=h.toInv.forget i;rcases Fg (S:=S) i with e | Jx
 ·rw [e]; exact h
 obtain ⟨hc,hd,xq⟩:=h.re Jx;obtain ⟨q,hq,Lu⟩:=h.iw;rw [Lu hc hd] at hq;unfold bp.forget at hI ⊢;split
 ·exact h
 ·rename_i n1;split
  ·exact h
  ·rename_i n2;split
   ·exact h
   ·rename_i k hk;split
    ·exact h
    ·rename_i d Dn;split
     ·exact h
     ·rename_i n3;simp only [if_neg n1,if_neg n2,hk,Dn,if_neg n3] at hI;have pX:=(List.getElem?_eq_some_iff.1 Dn).1;have hH:∀(j:Nat) (d':Hd),(S.H.set k {d with gone:=true})[j]?=some d'->∃d0,S.H[j]?=some d0/\d'.ls=d0.ls/\(d'.gone=false->d'=d0):=λj d' hj=>by
       rw [List.getElem?_set] at hj;by_cases f_:k=j
       ·subst f_;rw [if_pos rfl,if_pos pX] at hj;injection hj with hj; subst hj;exact ⟨d,Dn,rfl,λh=>by cases h⟩
       ·rw [if_neg f_] at hj; exact ⟨d',hj,rfl,λ_=>rfl⟩
      have hW:∀j d',Wd (jb S i.toNat k d) j d'->Wd S j d':=λj d' ⟨w1,w2,w3⟩=>by
       obtain ⟨d0,g1,g2,g3⟩:=hH j d' w1;have:=g3 w2; subst this;exact ⟨g1,w2,w3⟩
      have hT:∀j d',(S.H.set k {d with gone:=true})[j]?=some d'->(∀d0,S.H[j]?=some d0->T0 S d0)->T0 (jb S i.toNat k d) d':=λj d' hj hh=>by
       obtain ⟨d0,g1,g2,_⟩:=hH j d' hj;obtain ⟨x,hx,r⟩:=hh d0 g1;exact ⟨x,by rw [g2]; exact hx,r⟩
      refine ⟨hI,⟨S.head,⟨hq.hd,hq.hl,hq.lv,λj d' hw=>hq.ey j d' (hW j d' hw),λj d' hw=>hq.mm j d' (hW j d' hw),λj d' hw=>hq.ob j d' (hW j d' hw)⟩,λ_ _=>rfl⟩,λj hj d' e_ hl=>hT j d' e_ λd0 h0=>h.un j (List.mem_of_mem_eraseIdx hj) d0 h0 ?_,λhh j hj d' e_=>hT j d' e_ λd0 h0=>h.ss hh j hj d0 h0,λ_=>⟨hc,hd,xq⟩,λhh=>?_⟩
      ·obtain ⟨d1,g1,g2,_⟩:=hH j d' e_;rw [h0] at g1; injection g1 with g1; rw [g1,<-g2]; exact hl
      ·have:S.aQ=true:=hh;rw [hc] at this; cases this
inductive vI (C:List (List Int)) (K:List Int):Int->Prop
 | fact {l:Int} : l∈K->vI C K l
 | unit {c:List Int} {l:Int} : c∈C->l∈c->(∀x∈c,x≠l->vI C K (-x))->vI C K l
def mJ (C:List (List Int)) (K:List Int):Prop:=∃c∈C,∀x∈c,vI C K (-x)
def abw (C:List (List Int)) (tr:List Int):Prop:=∀c∈C,(∃x∈c, -x∈c)\/(∃x∈c,x∈tr)\/∃x∈c,∃y∈c,x≠y/\ -x∉tr/\ -y∉tr
variable {C C':List (List Int)} {K K' tr:List Int}
theorem vI.cut {x:Int} (h:vI C K x) (hk:∀y∈K,vI C K' y):vI C K' x:=by
 induction h with
 | fact hl=>exact hk _ hl
 | unit hc hl _ ih=>exact vI.unit hc hl ih
theorem vI.more {x:Int} (h:vI C K x) (hC:∀c∈C,c∈C') (hk:∀y∈K,y∈K'):vI C' K' x:=by
 induction h with
 | fact hl=>exact vI.fact (hk _ hl)
 | unit hc hl _ ih=>exact vI.unit (hC _ hc) hl ih
theorem mJ.cut (h:mJ C K) (hk:∀y∈K,vI C K' y):mJ C K':=by
 obtain ⟨c,hc,h⟩:=h;exact ⟨c,hc,λx hx=>(h x hx).cut hk⟩
theorem mJ.more (h:mJ C K) (hC:∀c∈C,c∈C') (hk:∀y∈K,y∈K'):mJ C' K':=by
 obtain ⟨c,hc,h⟩:=h;exact ⟨c,hC c hc,λx hx=>(h x hx).more hC hk⟩
theorem RH {T:Int->Prop} (hT:∀x,T x->¬T (-x)) (hC:∀c∈C,∃x∈c,T x) (hK:∀x∈K,T x) {x:Int} (h:vI C K x):T x:=by
 induction h with
 | fact hl=>exact hK _ hl
 | @unit c l hc hl _ ih=>
  obtain ⟨y,hy,ht⟩:=hC c hc;by_cases iB:y=l
  ·exact iB ▸ ht
  ·exact absurd (ih y hy iB) (hT y ht)
theorem IG {T:Int->Prop} (hT:∀x,T x->¬T (-x)) (hC:∀c∈C,∃x∈c,T x) (hK:∀x∈K,T x):¬mJ C K:=by
 rintro ⟨c,hc,h⟩;obtain ⟨y,hy,ht⟩:=hC c hc;exact hT y ht (RH hT hC hK (h y hy))
end bp
namespace bU
open Go Vc T
open bt (bg)
open dw (Td sY)
section
variable {es:List En} {cs:List Int}
def xB (es:List En) (S:Int->Prop):Prop:=∀l,S l->fl l=true/\∃y∈es,y.lit=neg l
theorem oK {es:List En} {y:En} (h:y∈es):∃j:Nat,es[j]?=some y:=List.mem_iff_getElem?.1 h
theorem Fh (hF:Fm es) {S:Int->Prop} (hS:xB es S) {x:En} (hx:x∈es):xB es (Og S x):=λl hl=>by
 rcases hl with ⟨hl,_⟩ | ⟨hl,bz⟩
 ·exact hS l hl
 ·exact tu hF x hx l hl bz
theorem abx (hF:Fm es) {top:Int} : ∀(i:Nat) (S:Int->Prop),xB es S->(∀(j:Nat) (y:En),es[j]?=some y->y.dM=top->S (neg y.lit)->j<i)->(∃(j:Nat) (y:En),es[j]?=some y/\y.dM=top/\S (neg y.lit))->∃o F,Dr es top S o F:=by
 intro i;induction i with
 | zero=>
  intro S _ hb ⟨j,y,h1,h2,h3⟩;exact absurd (hb j y h1 h2 h3) (Nat.not_lt_zero _)
 | succ i ih=>
  intro S hS hb hex;by_cases hi:∃x,es[i]?=some x/\x.dM=top/\S (neg x.lit)
  ·obtain ⟨x,h1,h2,h3⟩:=hi;have hG:Gt es top S i x:=⟨h1,h2,h3,λj y hj hy hl hs=>by have:=hb j y hy hl hs; omega⟩
   by_cases hA:BA es top S x
   ·exact ⟨_,_,.done hG hA⟩
   ·have HV:=List.mem_of_getElem? h1;have:∃l,S l/\lvl es l=top/\l≠neg x.lit:=by
     apply Classical.byContradiction;intro hn;exact hA λl hl Ff=>Classical.byContradiction λbz=>hn ⟨l,hl,Ff,bz⟩
    obtain ⟨l,hl,Ff,bz⟩:=this;obtain ⟨kI,y,hy,iB⟩:=hS l hl;obtain ⟨j,hj⟩:=oK hy;have VY:=fS hF hj iB;obtain ⟨o,F,hL⟩:=ih (Og S x) (Fh hF hS HV) (λk z hz F8 GK=>by
     rcases GK with ⟨hs,hn⟩ | ⟨hr,hn⟩
     ·have:=hb k z hz F8 hs;have:k≠i:=λe=>by subst e; rw [h1] at hz; injection hz with hz; rw [hz] at hn; exact hn rfl
      omega
     ·obtain ⟨j',y',g1,g2,g3⟩:=nN hF h1 hr hn;have SU:=(hF k z hz).1;rw [neg_neg SU] at g3;have:=rM hF hz g2 g3.symm;omega) ⟨j,y,hj,by rw [<-VY,Ff],Or.inl ⟨by rw [iB,neg_neg kI]; exact hl,by rw [iB,neg_neg kI]; exact bz⟩⟩
    exact ⟨o,F,.step hG hA hL⟩
  ·exact ih S hS (λj y hy hl hs=>by
    have:=hb j y hy hl hs;have:j≠i:=λe=>hi ⟨y,by rw [<-e]; exact hy,hl,hs⟩;omega) hex
theorem RI (hF:Fm es) (hn:es.length<=1048576):∀(L:List Int),∃b,Mx es (·∈L) b
 | []=>⟨0,Mx.nil λl h=>by cases h⟩
 | l :: L=>by
  obtain ⟨b,hb⟩:=RI hF hn L;refine ⟨_,hb.add (l:=l) (λx=>by rw [List.mem_cons]; exact Or.comm) ?_⟩;by_cases h:∃y∈es,y.lit=neg l
  ·obtain ⟨y,hy,hl⟩:=h;obtain ⟨j,hj⟩:=oK hy;rw [fS hF hj hl];exact (oG hF hn j y hj).1
  ·rw [EY λy hy e=>h ⟨y,hy,e⟩]; exact Int.le_refl _
theorem CY (hF:Fm es) {l:Int} (h:0<lvl es l):∃(j:Nat) (y:En),es[j]?=some y/\y.lit=neg l/\y.dM=lvl es l:=by
 by_cases hy:∃y∈es,y.lit=neg l
 ·obtain ⟨y,hy,hl⟩:=hy;obtain ⟨j,hj⟩:=oK hy;exact ⟨j,y,hj,hl,(fS hF hj hl).symm⟩
 ·rw [EY λy sk e=>hy ⟨y,sk,e⟩] at h; exact absurd h (Int.lt_irrefl _)
theorem agf (P:Int->Prop) (c:List Int) (h:∀x,P x->x∈c) (hf:∀x,P x->fl x=true):∃L,Td P L:=by
 open Classical in
 refine ⟨bp.dL (c.filter λx=>decide (P x)),(bp.lI (c:=c.filter λx=>decide (P x)) λx hx=>?_).S5,λx=>?_⟩
 ·rw [List.mem_filter] at hx; exact hf x (by simpa using hx.2)
 ·rw [(bp.lI (c:=c.filter λx=>decide (P x)) λx hx=>by rw [List.mem_filter] at hx; exact hf x (by simpa using hx.2)).mem,List.mem_filter];constructor
  ·rintro ⟨⟨_,h2⟩,h3⟩; exact ⟨by simpa using h2,h3⟩
  ·rintro ⟨h1,h2⟩; exact ⟨⟨h x h1,by simpa using h1⟩,h2⟩
theorem Fi (hF:Fm es) (hn:es.length<=1048576) (qg:cs.all fl=true) (hf:AX es cs):∃back cl,jt es cs 0 back cl:=by
 have hA:qM es cs 0:=Or.inr (Or.inr ⟨rfl,hf,hF,qg⟩);have hS:xB es (·∈cs):=λl hl=>⟨List.all_eq_true.1 qg l hl,hf l hl⟩
 obtain ⟨top,hM⟩:=RI hF hn cs;by_cases h0:top=0
 ·exact ⟨-1,[],hA,Or.inr ⟨rfl,top,hM,Or.inl ⟨h0,rfl,rfl⟩⟩⟩
 ·have nL:0<top:=by have:=hM.2.1; omega
  obtain ⟨l,hl,Ff⟩:=hM.2.2.resolve_left h0;obtain ⟨j,y,hj,iB,VY⟩:=CY hF (l:=l) (by rw [Ff]; exact nL);have kI:=(hS l hl).1;obtain ⟨o,F,hL⟩:=abx hF (top:=top) es.length (·∈cs) hS (λk z hz _ _=>(List.getElem?_eq_some_iff.1 hz).1) ⟨j,y,hj,VY.trans Ff,by rw [iB,neg_neg kI]; exact hl⟩;obtain ⟨hFs,hFo⟩:=hL.sub hF (tu hF) hS;obtain ⟨L,hT⟩:=agf (λl=>F l/\l≠o/\0<lvl es l) (es.map λy=>neg y.lit) (λx hx=>by
   obtain ⟨hxf,y,hy,iB⟩:=hFs x hx.1;exact List.mem_map.2 ⟨y,hy,by rw [iB,neg_neg hxf]⟩) (λx hx=>(hFs x hx.1).1)
  obtain ⟨b,hb⟩:=RI hF hn L;exact ⟨b,o :: L,hA,Or.inr ⟨rfl,top,hM,Or.inr ⟨nL,o,F,L,hL,hT,rfl,hb⟩⟩⟩
theorem va (hF:Fm es) (hn:es.length<=1048576) {i j:Nat} {x y:En} (hx:es[i]?=some x) (hy:es[j]?=some y) (h:j<=i):y.dM<=x.dM:=(oG hF hn i x hx).2.2 j y h hy
theorem aby (hF:Fm es) (hn:es.length<=1048576) {top:Int} {S F:Int->Prop} {o:Int} (h:Dr es top S o F):(∀l,S l->lvl es l<=top)->(∀l,F l->lvl es l<=top)/\lvl es o=top/\∀l,F l->lvl es l=top->l=o:=by
 induction h with
 | done h ha=>
  intro hS;refine ⟨hS,?_,ha⟩;rw [fS hF h.jr (neg_neg (hF _ _ h.jr).1).symm]; exact h.dM
 | step h ha Vo ih=>
  intro hS;refine ih λl hl=>?_;rcases hl with ⟨hl,_⟩ | ⟨hl,bz⟩
  ·exact hS l hl
  ·obtain ⟨j,y,h1,h2,h3⟩:=nN hF h.jr hl bz;rw [fS hF h2 h3,<-h.dM];exact va hF hn h.jr h2 (Nat.le_of_lt h1)
structure abz (es:List En) (cs:List Int) (back:Int) (o:Int) (L:List Int) (top:Int):Prop where
 pos:0<top
 mx:Mx es (·∈cs) top
 lo:lvl es o=top
 fo:fl o=true
 eo:∃(j:Nat) (y:En),es[j]?=some y/\y.lit=neg o/\y.dM=top
 ml:∀l∈L,fl l=true/\0<lvl es l/\lvl es l<top/\∃y∈es,y.lit=neg l
 mb:Mx es (·∈L) back
 nd:L.Nodup
 no:o∉L
theorem wG (hF:Fm es) (hn:es.length<=1048576) (qg:cs.all fl=true) (hf:AX es cs) {back:Int} {cl:List Int} (h:jt es cs 0 back cl) :
  (cl=[]/\back=-1/\Mx es (·∈cs) 0)\/∃o L top,cl=o :: L/\abz es cs back o L top:=by
 have hS:xB es (·∈cs):=λl hl=>⟨List.all_eq_true.1 qg l hl,hf l hl⟩
 obtain ⟨_,h⟩:=h;rcases h with ⟨h,_⟩ | ⟨_,top,hM,h⟩
 ·exact absurd rfl h
 rcases h with ⟨rfl,h2,h3⟩ | ⟨nL,o,F,L,hL,hT,rfl,hb⟩
 ·exact Or.inl ⟨h2,h3,hM⟩
 ·obtain ⟨hFs,hFo⟩:=hL.sub hF (tu hF) hS;obtain ⟨l1,l2,l3⟩:=aby hF hn hL hM.1;refine Or.inr ⟨o,L,top,rfl,nL,hM,l2,(hFs o hFo).1,?_,λl hl=>?_,hb,bp.wD hT.S5,λho=>((hT.mem o).1 ho).1.2.1 rfl⟩
  ·obtain ⟨j,y,h1,h2,h3⟩:=CY hF (l:=o) (by rw [l2]; exact nL);exact ⟨j,y,h1,h2,h3.trans l2⟩
  ·obtain ⟨⟨h1,h2,h3⟩,h4⟩:=(hT.mem l).1 hl;refine ⟨h4,h3,?_,(hFs l h1).2⟩;have:=l1 l h1;rcases Int.lt_or_eq_of_le this with h | h
   ·exact h
   ·exact absurd (l3 l h1 h) h2
end
end bU
namespace bU
open Go Vc T
open bt (bg)
open dw (Td sY)
open bp (vI mJ)
section
variable {es:List En} {cs:List Int}
theorem zK (hF:Fm es) {o:Int} {L:List Int} (pS:(o :: L).Nodup) (hL:∀l∈L,fl l=true/\0<lvl es l):∃s',shr es (o :: L) (o :: L).length=o :: s'/\s'.Sublist L/\∀l∈L,l∉s'->∃(a:Nat) (y:En),es[a]?=some y/\y.lit=neg l/\oh es (o :: L) a:=by
 have key:∀i,i<=L.length->∃s',shr es (o :: L) (i+1)=o :: s'/\s'.Sublist (L.take i)/\∀l∈L.take i,l∉s'->∃(a:Nat) (y:En),es[a]?=some y/\y.lit=neg l/\oh es (o :: L) a:=by
  intro i;induction i with
  | zero=>
   intro _;refine ⟨[],?_,by simp,λl hl=>by simp at hl⟩;rw [CQ (l:=o) rfl ⟨by simp,Or.inl rfl⟩];rfl
  | succ i ih=>
   intro hi;obtain ⟨s',h1,h2,h3⟩:=ih (by omega);obtain ⟨l,hl⟩:=bg (show i<L.length by omega);have jh:(o :: L)[i+1]?=some l:=hl;have X3:=List.mem_of_getElem? hl;obtain ⟨kI,nL⟩:=hL l X3;obtain ⟨a,y,hy,iB,VY⟩:=CY hF nL;have dO:l∉(o :: L).take (i+1):=by
    have:=pS;rw [<-List.take_append_drop (i+1) (o :: L),List.nodup_append] at this;intro hm;refine this.2.2 l hm l ?_ rfl;have e:(o :: L).drop (i+1)=l :: (o :: L).drop (i+2):=by
     rw [List.drop_eq_getElem_cons (by simp; omega)];congr 1;have:=List.getElem?_eq_some_iff.1 jh;exact this.2
    rw [e]; simp
   have SM:L.take (i+1)=L.take i++[l]:=by rw [List.take_add_one,hl]; rfl
   by_cases hk:Kp es (o :: L) (i+1) l
   ·refine ⟨s'++[l],by rw [CQ jh hk,h1]; rfl,by rw [SM]; exact h2.append (List.Sublist.refl _),λz hz hzn=>?_⟩;rw [SM,List.mem_append] at hz;rw [List.mem_append,not_or] at hzn;exact h3 z (hz.resolve_right hzn.2) hzn.1
   ·refine ⟨s',by rw [Ix jh hk,h1],by rw [SM]; exact h2.trans (List.sublist_append_left _ _),λz hz hzn=>?_⟩;rw [SM,List.mem_append] at hz;rcases hz with hz | hz
    ·exact h3 z hz hzn
    ·rw [List.mem_singleton.1 hz];refine ⟨a,y,hy,iB,Classical.byContradiction λhc=>hk ((Q0 hF kI hy iB (by omega) dO).2 ⟨by omega,hc⟩)⟩
 obtain ⟨s',h1,h2,h3⟩:=key L.length (Nat.le_refl _);rw [List.take_length] at h2 h3;exact ⟨s',h1,h2,h3⟩
def abA (es:List En):Prop:=∀(i:Nat) (x:En),es[i]?=some x->x.rs≠[]->0<x.dM->∃r∈x.rs,r≠x.lit/\∃(j:Nat) (y:En),es[j]?=some y/\y.lit=neg r/\y.dM=x.dM
theorem oO (hF:Fm es) (hLv:abA es) {back:Int} {o:Int} {L:List Int} {top:Int} (hA:abz es cs back o L top) {s':List Int} (h:∀l∈L,l∉s'->∃(a:Nat) (y:En),es[a]?=some y/\y.lit=neg l/\oh es (o :: L) a) (bz:L≠[]):0<back/\back<top/\∃l∈s',lvl es l=back:=by
 obtain ⟨l0,S3⟩:=List.exists_mem_of_ne_nil _ bz;have h1:=hA.mb.1 l0 S3;have h2:=(hA.ml l0 S3).2.1;have hb:0<back:=by omega
 obtain ⟨l1,uc,Ff⟩:=hA.mb.2.2.resolve_left (by omega);have hbt:back<top:=by rw [<-Ff]; exact (hA.ml l1 uc).2.2.1
 refine ⟨hb,hbt,Classical.byContradiction λhn=>?_⟩;have Km:∀l∈L,lvl es l=back->∃(a:Nat) (y:En),es[a]?=some y/\y.lit=neg l/\oh es (o :: L) a:=λl hl hv=>h l hl λhs=>hn ⟨l,hs,hv⟩;have key:∀(n a:Nat) (y:En),a<n->es[a]?=some y->y.dM=back->(neg y.lit∈L\/oh es (o :: L) a)->False:=by
  intro n;induction n with
  | zero=>intro a y h; omega
  | succ n ih=>
   intro a y han hy VY hc;have hfy:=(hF a y hy).1;have AW:oh es (o :: L) a:=by
    rcases hc with hc | hc
    ·obtain ⟨a',y',g1,g2,g3⟩:=Km _ hc (by rw [fS hF hy (neg_neg hfy).symm]; exact VY);rw [neg_neg hfy] at g2;rw [rM hF hy g1 g2.symm]; exact g3
    ·exact hc
   cases AW with
   | mk hx hr hh=>
    rw [hy] at hx; injection hx with hx; subst hx;obtain ⟨r,Ol,Ko,j,z,hz,F8,hzv⟩:=hLv a y hy hr (by omega);obtain ⟨j',z',g1,g2,g3⟩:=nN hF hy Ol Ko;have hj:=rM hF hz g2 (F8.trans g3.symm);have mz:fl r=true:=(tu hF y (List.mem_of_getElem? hy) r Ol Ko).1;have hnr:neg z.lit=r:=by rw [F8,neg_neg mz]
    by_cases hro:r∈o :: L
    ·rcases List.mem_cons.1 hro with e | hrL
     ·have:=fS hF hz F8;rw [e,hA.lo] at this; omega
     ·exact ih j z (by omega) hz (by omega) (Or.inl (by rw [hnr]; exact hrL))
    ·exact ih j z (by omega) hz (by omega) (Or.inr (hh r Ol Ko j z hz F8 (by omega) hro))
 obtain ⟨a,y,g1,g2,g3⟩:=Km l1 uc Ff;exact key (a+1) a y (by omega) g1 (by rw [<-fS hF g1 g2]; exact Ff) (Or.inr g3)
def RsC (C:List (List Int)) (es:List En):Prop:=∀x∈es,x.rs≠[]->∃c∈C,∀z,z∈c↔z∈x.rs
variable {C:List (List Int)} {K:List Int}
theorem Kx (hF:Fm es) (hC:RsC C es) {i:Nat} {x:En} (hx:es[i]?=some x) (hr:x.rs≠[]) (h:∀(j:Nat) (y:En),j<i->es[j]?=some y->(∃r∈x.rs,r≠x.lit/\y.lit=neg r)->vI C K y.lit):vI C K x.lit:=by
 obtain ⟨c,hc,hs⟩:=hC x (List.mem_of_getElem? hx) hr;have hxr:=((hF i x hx).2.2.2 hr).2.1;refine .unit hc ((hs _).2 hxr) λz hz bz=>?_;have Bb:=(hs z).1 hz;obtain ⟨j,y,h1,h2,h3⟩:=nN hF hx Bb bz;have SU:=(tu hF x (List.mem_of_getElem? hx) z Bb bz).1;have:=h j y h1 h2 ⟨z,Bb,bz,h3⟩;rwa [h3,bp.neg_eq SU] at this
theorem Fj (hF:Fm es) (hn:es.length<=1048576) (hC:RsC C es) (h0:∀x∈es,x.dM=0->x.rs≠[]):∀(n i:Nat) (x:En),i<n->es[i]?=some x->x.dM=0->vI C K x.lit:=by
 intro n;induction n with
 | zero=>intro i x h; omega
 | succ n ih=>
  intro i x hi hx hl;refine Kx hF hC hx (h0 x (List.mem_of_getElem? hx) hl) λj y hj hy _=>ih j y (by omega) hy ?_;have h1:=va hF hn hx hy (Nat.le_of_lt hj);have h2:=(oG hF hn j y hy).1;omega
theorem zL (hC:∃c∈C,∀z,z∈c↔z∈cs) (h:∀l∈cs,vI C K (-l)):mJ C K:=by
 obtain ⟨c,hc,hs⟩:=hC;exact ⟨c,hc,λx hx=>h x ((hs x).1 hx)⟩
theorem abB (hF:Fm es) (hn:es.length<=1048576) {top:Int} {S:Int->Prop} {i:Nat} {x:En} (h0:0<top) (hS:xB es S) (h:Gt es top S i x) (ha:¬BA es top S x):x.rs≠[]:=by
 intro hr;have:∃l,S l/\lvl es l=top/\l≠neg x.lit:=by
  apply Classical.byContradiction;intro hn;exact ha λl hl Ff=>Classical.byContradiction λbz=>hn ⟨l,hl,Ff,bz⟩
 obtain ⟨l,hl,Ff,bz⟩:=this;obtain ⟨kI,y,hy,iB⟩:=hS l hl;obtain ⟨j,hj⟩:=oK hy;have VY:=fS hF hj iB;have Q8:neg y.lit=l:=by rw [iB,neg_neg kI]
 have DY:j<i:=by
  rcases Nat.lt_trichotomy j i with q | q | q
  ·exact q
  ·subst q;have:=h.jr;rw [hj] at this; injection this with this; rw [<-this] at bz; exact absurd Q8.symm bz
  ·exact absurd (Q8 ▸ hl) (h.last j y q hj (by rw [<-VY,Ff]))
 obtain ⟨z,hz⟩:=bg (show i - 1<es.length by have:=(List.getElem?_eq_some_iff.1 h.jr).1; omega);have zH:=(hF i x h.jr).2.2.1;have e:i=i - 1+1:=by omega
 have e2:eO (es.take i)=z.dM:=by rw [e]; exact oE hz
 unfold Lev at zH;rw [e2] at zH;have m1:=va hF hn hz hj (by omega);have m2:=va hF hn h.jr hz (by omega);have h3:=h.dM;rcases zH.2 with q | q
 ·omega
 ·have:=q.2 hr; omega
theorem RJ (hF:Fm es) (hn:es.length<=1048576) (hC:RsC C es) {top:Int} (h0:0<top) {S F:Int->Prop} {o:Int} (h:Dr es top S o F):xB es S->(∀l,F l->vI C K (-l))->∀l,S l->vI C K (-l):=by
 induction h with
 | done h ha=>exact λ_ hF=>hF
 | @step S F i x o h ha hl ih=>
  intro hS hD l jh;have HV:=List.mem_of_getElem? h.jr;have hN:=ih (Fh hF hS HV) hD;have hr:=abB hF hn h0 hS h ha;by_cases Dq:l=neg x.lit
  ·subst Dq;have Tq:=(hF i x h.jr).1;obtain ⟨c,hc,hs⟩:=hC x HV hr;have hxr:=((hF i x h.jr).2.2.2 hr).2.1;have:=vI.unit (K:=K) hc ((hs _).2 hxr) λz hz bz=>hN z (Or.inr ⟨(hs z).1 hz,bz⟩);rw [bp.neg_eq Tq,Int.neg_neg]; exact this
  ·exact hN l (Or.inl ⟨jh,Dq⟩)
theorem wH (hF:Fm es) (hn:es.length<=1048576) (hC:RsC C es) (h0:∀x∈es,x.dM=0->x.rs≠[]) (Kh:∃c∈C,∀z,z∈c↔z∈cs) (qg:cs.all fl=true) (hf:AX es cs) {back:Int} {cl:List Int} (h:jt es cs 0 back cl) :
  mJ C ((shr es cl cl.length).map λx=>-x):=by
 have hS:xB es (·∈cs):=λl hl=>⟨List.all_eq_true.1 qg l hl,hf l hl⟩
 have al3:=wG hF hn qg hf h;obtain ⟨_,h⟩:=h;rcases h with ⟨h,_⟩ | ⟨_,top,hM,h⟩
 ·exact absurd rfl h
 rcases h with ⟨h1,rfl,h3⟩ | ⟨nL,o,F,L,hL,hT,rfl,hb⟩
 ·refine zL Kh λl hl=>?_;obtain ⟨kI,y,hy,iB⟩:=hS l hl;obtain ⟨j,hj⟩:=oK hy;have h1:=hM.1 l hl;have S6:=(oG hF hn j y hj).1;have:=fS hF hj iB;have:=Fj (K:=(shr es [] ([]:List Int).length).map λx=>-x) hF hn hC h0 (j+1) j y (by omega) hj (by omega);rwa [iB,bp.neg_eq kI] at this
 ·obtain ⟨o',L',top',e,hA⟩:=al3.resolve_left λh=>by cases h.1
  injection e with e1 e2; subst e1; subst e2;obtain ⟨s',hs,iX,Ls⟩:=zK hF (List.nodup_cons.2 ⟨hA.no,hA.nd⟩) (L:=L) (o:=o) λl hl=>⟨(hA.ml l hl).1,(hA.ml l hl).2.1⟩
  rw [hs]
  -- U8 is covered follows
  have key:∀(n i:Nat) (x:En),i<n->es[i]?=some x->(x.dM=0\/neg x.lit∈o :: L\/oh es (o :: L) i)->vI C ((o :: s').map λx=>-x) x.lit:=by
   intro n;induction n with
   | zero=>intro i x h; omega
   | succ n ih=>
    intro i x hi hx hc;have Tq:=(hF i x hx).1;have AW:oh es (o :: L) i->vI C ((o :: s').map λx=>-x) x.lit:=λAW=>by
     cases AW with
     | mk jG hr hh=>
      rw [hx] at jG; injection jG with jG; subst jG;refine Kx hF hC hx hr λj y hj hy ⟨r,Ol,Ko,hyr⟩=>ih j y (by omega) hy ?_;by_cases hy0:y.dM=0
      ·exact Or.inl hy0
      ·have mz:=(tu hF x (List.mem_of_getElem? hx) r Ol Ko).1;by_cases hro:r∈o :: L
       ·exact Or.inr (Or.inl (by rw [hyr,neg_neg mz]; exact hro))
       ·have:=(oG hF hn j y hy).1;exact Or.inr (Or.inr (hh r Ol Ko j y hy hyr (by omega) hro))
    rcases hc with hc | hc | hc
    ·exact Fj hF hn hC h0 (i+1) i x (by omega) hx hc
    ·have nB:neg x.lit∈o :: s'->vI C ((o :: s').map λx=>-x) x.lit:=λhm=>.fact (List.mem_map.2 ⟨_,hm,by rw [bp.neg_eq Tq]; omega⟩);rcases List.mem_cons.1 hc with e | Tp
     ·exact nB (by rw [e]; simp)
     ·by_cases Au:neg x.lit∈s'
      ·exact nB (List.mem_cons_of_mem _ Au)
      ·obtain ⟨a,y,g1,g2,g3⟩:=Ls _ Tp Au;rw [neg_neg Tq] at g2;rw [<-rM hF hx g1 g2.symm] at g3;exact AW g3
    ·exact AW hc
  have hFs:=(hL.sub hF (tu hF) hS).1;have hFd:∀l,F l->vI C ((o :: s').map λx=>-x) (-l):=λl hl=>by
   obtain ⟨kI,y,hy,iB⟩:=hFs l hl;obtain ⟨j,hj⟩:=oK hy;have hd:=key (j+1) j y (by omega) hj (by
    by_cases J9:l=o
    ·exact Or.inr (Or.inl (by rw [iB,neg_neg kI,J9]; simp))
    ·by_cases S3:0<lvl es l
     ·exact Or.inr (Or.inl (by rw [iB,neg_neg kI]; exact List.mem_cons_of_mem _ ((hT.mem l).2 ⟨⟨hl,J9,S3⟩,kI⟩)))
     ·have:=fS hF hj iB;have:=(oG hF hn j y hj).1;exact Or.inl (by omega))
   rwa [iB,bp.neg_eq kI] at hd
  exact zL Kh (RJ hF hn hC nL hL hS hFd)
end
end bU
namespace bp
open Go Vc T
open Trail (E St bW upto bZ)
open bt (bg)
def Lz (S:ES):Prop:=∀e∈S.R,0<=e.rs->0<e.lv->∃(k:Nat) (d:Hd),S.H[k]?=some d/\d.at_=e.rs/\∃x∈d.ls,x≠e.lit/\∃f∈S.R,f.lit=-x/\f.lv=e.lv
theorem Lz.to {S S':ES} (h:Lz S) (hR:S'.R=S.R) (hH:∀(k:Nat) (d:Hd),S.H[k]?=some d->∃d',S'.H[k]?=some d'/\d'.ls=d.ls/\d'.at_=d.at_):Lz S':=λe he h0 hl=>by
 rw [hR] at he ⊢;obtain ⟨k,d,h1,h2,x,hx,r⟩:=h e he h0 hl;obtain ⟨d',g1,g2,g3⟩:=hH k d h1;exact ⟨k,d',g1,g3.trans h2,x,by rw [g2]; exact hx,r⟩
theorem Lz.put {S:ES} (h:Lz S) {l r:Int} (hn:0<=r->S.L≠[]->∃(k:Nat) (d:Hd),S.H[k]?=some d/\d.at_=r/\∃x∈d.ls,x≠l/\∃f∈S.R,f.lit=-x/\f.lv=S.L.length):Lz (kA S l r):=λe he h0 hl=>by
 rcases List.mem_append.1 (show e∈S.R++[(⟨l,S.L.length,r⟩:E)] from he) with he | he
 ·obtain ⟨k,d,h1,h2,x,hx,bz,f,hf,q⟩:=h e he h0 hl;exact ⟨k,d,h1,h2,x,hx,bz,f,List.mem_append_left _ hf,q⟩
 ·rw [List.mem_singleton] at he; subst he;obtain ⟨k,d,h1,h2,x,hx,bz,f,hf,q⟩:=hn h0 (λe=>by rw [e] at hl; exact absurd (show (0:Int)<((0:Nat):Int) from hl) (by decide));exact ⟨k,d,h1,h2,x,hx,bz,f,List.mem_append_left _ hf,q⟩
theorem Lz.move {S:ES} (h:Lz S) {k:Nat} {d:Hd} (hd:S.H[k]?=some d) (l x:Int):Lz (jT S k d l x):=by
 refine h.to rfl λj d1 hj=>?_;show ∃d',(S.H.set k {d with e0:=other d l,e1:=x})[j]?=some d'/\_;rw [List.getElem?_set];by_cases f_:k=j
 ·subst f_;rw [hd] at hj; injection hj with hj; subst hj;rw [if_pos rfl,if_pos (List.getElem?_eq_some_iff.1 hd).1];exact ⟨_,rfl,rfl,rfl⟩
 ·rw [if_neg f_]; exact ⟨d1,hj,rfl,rfl⟩
def At1 (S:ES) (l:Int):Prop:=∃e∈S.R,e.lit=-l/\e.lv=S.L.length
theorem Lz.cv {l:Int} {S:ES} {k:Nat} {todo stay:List Nat} {ok:Bool} (hv:VI l S (k :: todo) stay) (h:Lz S) (hl:At1 S l):Lz (cv l (S,stay,ok) k).1/\At1 (cv l (S,stay,ok) k).1 l:=by
 obtain ⟨d,hd,h0,h1,bz,hw⟩:=hv.td k (by simp);obtain ⟨o1,o2,o3,o4⟩:=lH hw bz;have pM:l∈d.ls:=by rcases hw with hw | hw<;>rw [hw]; exact h0; exact h1
 have Lo:∀(k:Nat) (d:Hd),S.H[k]?=some d->∃d',S.H[k]?=some d'/\d'.ls=d.ls/\d'.at_=d.at_:=λk d hk=>⟨d,hk,rfl,rfl⟩
 unfold bp.cv;dsimp only;rw [hd];dsimp only;split
 ·exact ⟨h,hl⟩
 ·split
  ·exact ⟨h,hl⟩
  ·split
   ·exact ⟨h.move hd _ _,hl⟩
   ·split
    ·exact ⟨h.to rfl Lo,hl⟩
    ·split
     ·obtain ⟨e,he,h2,h3⟩:=hl;exact ⟨h.put λ_ _=>⟨k,d,hd,rfl,l,pM,Ne.symm o2,e,he,h2,h3⟩,e,List.mem_append_left _ he,h2,h3⟩
     ·exact ⟨h,hl⟩
theorem Lz.fold {l:Int} : ∀(todo:List Nat) (S:ES) (stay:List Nat) (ok:Bool),VI l S todo stay->Lz S->At1 S l->Lz (todo.foldl (bp.cv l) (S,stay,ok)).1
 | [],S,stay,ok,hv,h,_=>h
 | k :: todo,S,stay,ok,hv,h,hl=>by
  obtain ⟨a,b⟩:=Lz.cv (ok:=ok) hv h hl;exact Lz.fold todo _ _ (bp.cv l (S,stay,ok) k).2.2 hv.step a b
theorem Lz.visit {S:ES} (hw:WfE S) (h:Lz S) {l:Int} (hl:Wi S.nv l) (ha:At1 S l):Lz (visit S l).1:=
 (Lz.fold (ck S (bn l)) {S with lists:=S.lists.set (bn l) []} [] true (VI.start hw hl) (h.to rfl λk d hk=>⟨d,hk,rfl,rfl⟩) ha).to rfl λk d hk=>⟨d,hk,rfl,rfl⟩
theorem Lz.single {S:ES} (h:Lz S) (hL:S.L=[]) (d:Hd):Lz (single S d).1:=by
 unfold bp.single;split
 ·split
  ·exact h
  ·exact h.put λ_ hn=>absurd hL hn
 ·exact h.to rfl λk d hk=>⟨d,hk,rfl,rfl⟩
theorem Lz.xA:∀(ids:List Nat) (acc:ES×Bool),Lz acc.1->acc.1.L=[]->Lz (ids.foldl dz acc).1
 | [],acc,h,_=>h
 | k :: ids,acc,h,hL=>by
  refine Lz.xA ids (dz acc k) ?_ ((uT acc k).L.trans hL);unfold dz;split
  ·exact h
  ·split
   ·exact h
   ·exact h.single hL _
theorem Lz.bu:∀(n:Nat) (S:ES),WfE S->kJ S->Iw S S.head->Lz S->Lz (bu n S).1
 | 0,S,hw,hs,hi,h=>h
 | n+1,S,hw,hs,hi,h=>by
  unfold bp.bu;cases he:S.R[S.head]? with
  | none=>exact h
  | some e=>
   dsimp only;have pq:=List.mem_of_getElem? he;have sH:Wi S.nv (-e.lit):=jC (gN (hs.own e pq));have vF:WfE {S with head:=S.head+1}:=hw.self (S.head+1) S.rest S.aQ S.dead S.bad;obtain ⟨v1,v2⟩:=Iw.visit hw hs hi he;have hf:=uS {S with head:=S.head+1} (-e.lit);have xq:(bp.visit {S with head:=S.head+1} (-e.lit)).1.head=S.head+1:=hf.head;have h3:Lz (bp.visit {S with head:=S.head+1} (-e.lit)).1:=Lz.visit (S:={S with head:=S.head+1}) vF (h.to rfl λk d hk=>⟨d,hk,rfl,rfl⟩) sH ⟨e,pq,by omega,hi.lv S.head e (Nat.le_refl _) he⟩;split
   ·rename_i ho;exact Lz.bu n _ (vF.visit sH) (u_ (S:={S with head:=S.head+1}) vF hs sH) (by rw [xq]; exact v1 ho) h3
   ·exact h3
theorem Lz.spread {S:ES} (hz:Iz S) (h:Lz S):Lz (spread S).1:=by
 by_cases h0:(S.dead || S.aQ)=true
 ·have:bp.spread S=(S,false):=by unfold bp.spread; rw [if_pos h0]
  rw [this]; exact h
 have hd:S.dead=false:=by cases h1:S.dead<;>simp_all
 have hc:S.aQ=false:=by cases h1:S.aQ<;>simp_all
 obtain ⟨q,hq,Lu⟩:=hz.iw;rw [Lu hc hd] at hq;have BC:WfE (aV S).1/\kJ (aV S).1/\((aV S).2=true->Iw (aV S).1 (aV S).1.head)/\Lz (aV S).1:=by
  unfold aV;split
  ·rename_i hL;have Tp:S.L=[]:=List.eq_nil_of_length_eq_zero hL;have h1:=kK S.short (S,true) hz.toWfE hz.st;obtain ⟨a,b,c⟩:=zJ (q:=S.head) S.short (S,true) hz.toWfE hz.st Tp rfl hq hz.sh (λk hk d hd=>⟨hz.s1 k hk d hd,hz.sg k hk d hd⟩);have hf:=nM S.short (S,true);exact ⟨h1.1,h1.2,λ_=>by rw [hf.head]; exact a,Lz.xA _ _ h Tp⟩
  ·exact ⟨hz.toWfE,hz.st,λ_=>hq,h⟩
 obtain ⟨a1,a2,a3,a4⟩:=BC;unfold bp.spread;rw [if_neg h0];dsimp only;split
 ·rename_i o1;exact (Lz.bu S.nv _ a1 a2 (a3 o1) a4).to rfl λk d hk=>⟨d,hk,rfl,rfl⟩
 ·exact a4.to rfl λk d hk=>⟨d,hk,rfl,rfl⟩
theorem Lz.dec {S:ES} (h:Lz S) (l:Int):Lz (dG S l):=by
 unfold dG;split
 ·intro e he h0 hl;rcases List.mem_append.1 (show e∈S.R++[(⟨l,(S.L.length+1:Nat), -1⟩:E)] from he) with he | he
  ·obtain ⟨k,d,h1,h2,x,hx,bz,f,hf,q⟩:=h e he h0 hl;exact ⟨k,d,h1,h2,x,hx,bz,f,List.mem_append_left _ hf,q⟩
  ·rw [List.mem_singleton] at he; subst he;exact absurd h0 (show ¬(0:Int)<= -1 by decide)
 ·exact h
theorem Lz.cut {S:ES} (h:Lz S) (k:Int):Lz (fE S k):=λe he h0 hl=>by
 obtain ⟨he,hk⟩:=c_.1 (show e∈upto k S.R from he);obtain ⟨j,d,h1,h2,x,hx,bz,f,hf,q1,q2⟩:=h e he h0 hl;exact ⟨j,d,h1,h2,x,hx,bz,f,c_.2 ⟨hf,by omega⟩,q1,q2⟩
theorem Lz.aR {S:ES} (h:Lz S):Lz (aR S).2:=by
 unfold bp.aR;split
 ·exact h
 ·exact (h.cut 0).to rfl λk d hk=>⟨d,hk,rfl,rfl⟩
theorem Lz.forget {S:ES} (h:Lz S) (i:Int):Lz (forget S i).2:=by
 unfold bp.forget;split
 ·exact h
 ·split
  ·exact h
  ·split
   ·exact h
   ·rename_i k hk;split
    ·exact h
    ·rename_i d hd;split
     ·exact h
     ·refine h.to rfl λj d1 hj=>?_;show ∃d',(S.H.set k {d with gone:=true})[j]?=some d'/\d'.ls=d1.ls/\d'.at_=d1.at_;rw [List.getElem?_set];by_cases f_:k=j
      ·subst f_;rw [hd] at hj; injection hj with hj; subst hj;rw [if_pos rfl,if_pos (List.getElem?_eq_some_iff.1 hd).1];exact ⟨_,rfl,rfl,rfl⟩
      ·rw [if_neg f_]; exact ⟨d1,hj,rfl,rfl⟩
end bp
namespace bp
open Go Vc T
open Trail (E St bW upto bZ)
open bt (bg)
open dw (fl bx)
open bU (En Fm jt abz lvl AX Mx shr Fi wG zK oO abA qM eO RsC wH)
theorem qY (S:ES):(cB S).length=S.R.length:=by unfold cB; rw [List.length_map]
theorem gX {S:ES} {y:En} : y∈cB S↔∃e∈S.R,kC S e=y:=by unfold cB; exact List.mem_map
theorem Cl.abC {S:ES} (hp:Pl S) (h:Cl S):∃(k:Nat) (d:Hd),S.H[k]?=some d/\d.gone=false/\(∀x,x∈gW S.ar S.bad↔x∈d.ls)/\(∀x∈d.ls,∃e∈S.R,e.lit=-x)/\(S.L=[]\/∃x∈d.ls,∃e∈S.R,e.lit=-x/\e.lv=S.L.length):=by
 obtain ⟨k,d,h1,h2,h3,h4,h5⟩:=h;exact ⟨k,d,h1,h2,by rw [<-h3]; exact hp.get h1 h2,h4,h5⟩
structure Cf (S:ES):Prop where
 fm:Fm (cB S)
 ln:(cB S).length<=1048576
 cf:(gW S.ar S.bad).all bU.fl=true
 fa:AX (cB S) (gW S.ar S.bad)
theorem Iz.cf {S:ES} (h:Iz S) (hc:S.aQ=true):Cf S:=by
 obtain ⟨k,d,h1,h2,h3,h4,h5⟩:=(h.kl hc).2.abC h.pl;have hf:∀x∈d.ls,fl x=true:=λx hx=>iA h.nv ((h.hl k d h1).1 x hx);refine ⟨(VV h.toWF h.rs h.pl h.rg).1,by rw [qY]; have:=h.st.len; have:=h.nv; omega,List.all_eq_true.2 λx hx=>hf x ((h3 x).1 hx),λx hx=>?_⟩;obtain ⟨e,he,hl⟩:=h4 x ((h3 x).1 hx);exact ⟨kC S e,gX.2 ⟨e,he,rfl⟩,by rw [neg_eq (hf x ((h3 x).1 hx))]; exact hl⟩
open Classical in
noncomputable def oP (S:ES):Int×List Int:=if h:∃p:Int×List Int,jt (cB S) (gW S.ar S.bad) 0 p.1 p.2 then Classical.choose h else (0,[])
noncomputable def pQ (S:ES):List Int:=shr (cB S) (oP S).2 (oP S).2.length
theorem zM {S:ES} (h:Cf S):jt (cB S) (gW S.ar S.bad) 0 (oP S).1 (oP S).2:=by
 have hex:∃p:Int×List Int,jt (cB S) (gW S.ar S.bad) 0 p.1 p.2:=by
  obtain ⟨b,cl,hh⟩:=Fi h.fm h.ln h.cf h.fa;exact ⟨(b,cl),hh⟩
 unfold oP;rw [dif_pos hex];exact Classical.choose_spec hex
structure Lf (S:ES) (back:Int) (s:List Int):Prop where
 ne:s≠[]
 wi:∀x∈s,Wi S.nv x
 nd:s.Nodup
 ln:s.length<=S.nv
 b0:0<=back
 bl:back<S.L.length
 fr:bZ S.nv (upto back S.R) (s.headD 0)=0
 hu:∀x∈s,x≠s.headD 0->∃e∈upto back S.R,e.lit=-x
 hd:∃e∈S.R,e.lit=-(s.headD 0)/\e.lv=S.L.length
 mx:1<s.length->∃x∈s.tail,∃e∈S.R,e.lit=-x/\e.lv=back
 m1:s.length<2->back=0
theorem Fk {S:ES} (hF:Fm (cB S)) {x:Int} (hf:fl x=true) {y:En} (hy:y∈cB S) (hl:y.lit=bU.neg x):∃e∈S.R,e.lit=-x/\e.lv=lvl (cB S) x:=by
 obtain ⟨e,he,uU⟩:=gX.1 hy;obtain ⟨j,hj⟩:=bU.oK hy;refine ⟨e,he,?_,?_⟩
 ·rw [<-neg_eq hf,<-hl,<-uU]; rfl
 ·rw [bU.fS hF hj hl,<-uU]; rfl
theorem CZ {S:ES} (h:Iz S) (hl:Lz S):abA (cB S):=by
 intro i x hx hr nL;obtain ⟨e,he,uU⟩:=gX.1 (List.mem_of_getElem? hx);have h0:0<=e.rs:=by
  apply Classical.byContradiction;intro hn;apply hr; rw [<-uU]; unfold kC; rw [if_neg hn]
 have Ff:e.lv=x.dM:=by rw [<-uU]; rfl
 obtain ⟨k,d,h1,h2,z,hz,bz,f,hf,kI,hfv⟩:=hl e he h0 (by omega);obtain ⟨k',d',g1,g2,g3,g4⟩:=zG h.pl h.rg he h0;have hk:=h.pl.inj k k' d d' h1 g1 (by rw [h2,g2]);subst hk;rw [h1] at g1; injection g1 with g1; subst g1;have SU:fl z=true:=iA h.nv ((h.hl k d h1).1 z hz);have hfm:=gX.2 ⟨f,hf,rfl⟩;obtain ⟨j,hj⟩:=bU.oK hfm;refine ⟨z,by rw [<-uU]; exact (g4 z).2 hz,by rw [<-uU]; exact bz,j,kC S f,hj,by rw [neg_eq SU]; exact kI,?_⟩;show f.lv=x.dM;omega
theorem rR {α:Type} [DecidableEq α]:∀{l m:List α},l.Nodup->(∀x∈l,x∈m)->l.length<=m.length
 | [],m,_,_=>Nat.zero_le _
 | a :: l,m,hn,hs=>by
  rw [List.nodup_cons] at hn;have ha:=hs a (by simp);have:=rR (l:=l) (m:=m.erase a) hn.2 λx hx=>(List.mem_erase_of_ne (λ(e:x=a)=>hn.1 (e ▸ hx))).2 (hs x (by simp [hx]));rw [List.length_erase_of_mem ha] at this;have hp:0<m.length:=List.length_pos_of_mem ha;simp only [List.length_cons];omega
theorem kL {S:ES} (h:Iz S) (hl:Lz S) (hc:S.aQ=true):((oP S).2=[]/\S.L=[]/\(oP S).1=-1)\/((oP S).2≠[]/\(oP S).2.length<=S.nv/\qM (cB S) (oP S).2 0/\Lf S (oP S).1 (pQ S)):=by
 have hC:=h.cf hc;have F3:=zM hC;obtain ⟨k,d,h1,h2,h3,h4,h5⟩:=(h.kl hc).2.abC h.pl;have hdf:∀x∈d.ls,fl x=true:=λx hx=>iA h.nv ((h.hl k d h1).1 x hx);have Yk:∀{x:Int} {e:E},fl x=true->e∈S.R->e.lit=-x->lvl (cB S) x=e.lv:=λ{x e} Tq he hl=>by
  have hm:=gX.2 ⟨e,he,rfl⟩;obtain ⟨j,hj⟩:=bU.oK hm;rw [bU.fS hC.fm hj (l:=x) (by rw [neg_eq Tq]; exact hl)]; rfl
 rcases wG hC.fm hC.ln hC.cf hC.fa F3 with ⟨e1,e2,hM⟩ | ⟨o,L,top,e1,hA⟩
 ·refine Or.inl ⟨e1,?_,e2⟩;rcases h5 with h5 | ⟨x,hx,e,he,uj,hev⟩
  ·exact h5
  ·have:=hM.1 x ((h3 x).2 hx);rw [Yk (hdf x hx) he uj,hev] at this;exact List.eq_nil_of_length_eq_zero (by omega)
 ·have aa7:top=S.L.length:=by
   have hle:top<=S.L.length:=by
    obtain ⟨j,y,g1,g2,g3⟩:=hA.eo;obtain ⟨e,he,uU⟩:=gX.1 (List.mem_of_getElem? g1);rw [<-g3,<-uU]; exact (h.st.lvl e he).2
   rcases h5 with h5 | ⟨x,hx,e,he,uj,hev⟩
   ·rw [h5] at hle ⊢; have:=hA.pos; simp at hle; omega
   ·have:=hA.mx.1 x ((h3 x).2 hx);rw [Yk (hdf x hx) he uj,hev] at this;omega
  have pS:=List.nodup_cons.2 ⟨hA.no,hA.nd⟩;obtain ⟨s',hs,iX,Ls⟩:=zK hC.fm pS λl hl=>⟨(hA.ml l hl).1,(hA.ml l hl).2.1⟩
  have vP:pQ S=o :: s':=by unfold pQ; rw [e1]; exact hs
  have uV:∀x∈o :: L,fl x=true/\∃e∈S.R,e.lit=-x/\e.lv=lvl (cB S) x:=λx hx=>by
   rcases List.mem_cons.1 hx with rfl | hx
   ·obtain ⟨j,y,g1,g2,g3⟩:=hA.eo;exact ⟨hA.fo,Fk hC.fm hA.fo (List.mem_of_getElem? g1) g2⟩
   ·obtain ⟨a,b,c,y,hy,iB⟩:=hA.ml x hx;exact ⟨a,Fk hC.fm a hy iB⟩
  have hlen:(o :: L).length<=S.nv:=by
   have:=rR (m:=S.R.map λe=>-e.lit) pS λx hx=>by
    obtain ⟨_,e,he,hl,_⟩:=uV x hx;exact List.mem_map.2 ⟨e,he,by omega⟩
   rw [List.length_map] at this;have:=h.st.len;omega
  have sH:∀x∈o :: L,Wi S.nv x:=λx hx=>by
   obtain ⟨_,e,he,hl,_⟩:=uV x hx;have:=gN (h.st.own e he);rw [hl] at this;have:=jC this;rwa [Int.neg_neg] at this
  have Yl:∀x∈o :: s',x∈o :: L:=λx hx=>by
   rcases List.mem_cons.1 hx with rfl | hx
   ·simp
   ·exact List.mem_cons_of_mem _ (iX.subset hx)
  have hbn:L=[]->(oP S).1=0:=λhL=>by
   have:=hA.mb;rw [hL] at this;rcases this.2.2 with q | ⟨l,hl,_⟩
   ·exact q
   ·cases hl
  have xx:0<=(oP S).1/\(oP S).1<top:=by
   refine ⟨hA.mb.2.1,?_⟩;by_cases hL:L=[]
   ·rw [hbn hL]; exact hA.pos
   ·exact (oO hC.fm (CZ h hl) hA Ls hL).2.1
  refine Or.inr ⟨by rw [e1]; simp,by rw [e1]; exact hlen,?_,?_⟩
  ·rw [e1];exact Or.inr (Or.inr ⟨rfl,λx hx=>by
    obtain ⟨a,e,he,b,_⟩:=uV x hx;exact ⟨kC S e,gX.2 ⟨e,he,rfl⟩,by rw [neg_eq a]; exact b⟩,hC.fm,List.all_eq_true.2 λx hx=>(uV x hx).1⟩)
  rw [vP];have al4:(o :: s').Nodup:=List.nodup_cons.2 ⟨λq=>hA.no (iX.subset q),hA.nd.sublist iX⟩;have hoe:∃e∈S.R,e.lit=-o/\e.lv=S.L.length:=by
   obtain ⟨_,e,he,b,c⟩:=uV o (by simp);exact ⟨e,he,b,by rw [c,hA.lo,aa7]⟩
  refine ⟨by simp,λx hx=>sH x (Yl x hx),al4,?_,xx.1,by omega,?_,λx hx bz=>?_,hoe,λh1=>?_,λh1=>?_⟩
  ·have:=iX.length_le;simp only [List.length_cons] at hlen ⊢; omega
  ·show bZ S.nv (upto (oP S).1 S.R) o=0;obtain ⟨e,he,b,c⟩:=hoe;have dO:∀f∈upto (oP S).1 S.R,f.lit.natAbs≠o.natAbs:=λf hf hq=>by
    obtain ⟨E_,Fc⟩:=c_.1 hf;have m1:=yz h.st E_;have m2:=yz h.st he;rw [hq] at m1;rw [b,Int.natAbs_neg,m1] at m2;injection m2 with m2;rw [m2] at Fc; omega
   unfold bZ;rw [if_pos (CF (sH o (by simp)))];rw [show Trail.jO (upto (oP S).1 S.R) o.natAbs=none from Trail.Ee.2 dO]
  ·have jG:x≠o:=bz;have xI:x∈s':=(List.mem_cons.1 hx).resolve_left jG;obtain ⟨_,e,he,b,c⟩:=uV x (Yl x hx);exact ⟨e,c_.2 ⟨he,by rw [c]; exact hA.mb.1 x (iX.subset xI)⟩,b⟩
  ·have hL:L≠[]:=λe=>by
    rw [e] at iX;have:=iX.length_le;simp only [List.length_cons,List.length_nil] at h1 this; omega
   obtain ⟨_,_,l,uc,zH⟩:=oO hC.fm (CZ h hl) hA Ls hL;obtain ⟨_,e,he,b,c⟩:=uV l (List.mem_cons_of_mem _ (iX.subset uc));exact ⟨l,uc,e,he,b,by rw [c,zH]⟩
  ·refine hbn (Classical.byContradiction λhL=>?_);obtain ⟨_,_,l,uc,_⟩:=oO hC.fm (CZ h hl) hA Ls hL;have:=List.length_pos_of_mem uc;simp only [List.length_cons] at h1; omega
end bp
namespace bp
open Go Vc T
open Trail (E St bW upto bZ)
open bt (bg)
open dw (fl bx)
theorem RL (S:ES) (cs:List Int):∀y∈cs,om S y<=om S (nQ S cs):=by
 cases cs with
 | nil=>intro y hy; cases hy
 | cons x xs=>
  have key:∀(xs:List Int) (m:Int),om S m<=om S (xs.foldl (λm y=>if 0<om S y - om S m then y else m) m)/\∀y∈xs,om S y<=om S (xs.foldl (λm y=>if 0<om S y - om S m then y else m) m):=by
   intro xs;induction xs with
   | nil=>exact λm=>⟨Int.le_refl _,λy hy=>by cases hy⟩
   | cons z zs ih=>
    intro m;rw [List.foldl_cons];by_cases hz:0<om S z - om S m
    ·rw [if_pos hz];obtain ⟨a,b⟩:=ih z;exact ⟨by omega,λy hy=>by rcases List.mem_cons.1 hy with rfl | hy; exact a; exact b y hy⟩
    ·rw [if_neg hz];obtain ⟨a,b⟩:=ih m;exact ⟨a,λy hy=>by rcases List.mem_cons.1 hy with rfl | hy; omega; exact b y hy⟩
  intro y hy;rcases List.mem_cons.1 hy with rfl | hy
  ·exact (key xs y).1
  ·exact (key xs x).2 y hy
theorem Ky {S:ES} (hs:kJ S) {e:E} (he:e∈S.R) {x:Int} (hl:e.lit=-x):om S x=e.lv:=by
 have:=(Kj hs he).1;rw [hl,Int.natAbs_neg] at this;exact this
theorem ve (S:ES) (s:List Int) {k:Nat} {d:Hd} (hk:k<S.H.length) (h:(aY S s).H[k]?=some d):S.H[k]?=some d:=by
 obtain ⟨d0,Dn⟩:=bg hk;have:=(wE S s).1 k d0 Dn;rw [h] at this; injection this with this; rw [this]; exact Dn
theorem zN (S:ES) (s:List Int):(aY S s).H.length=S.H.length+1:=by
 unfold aY;split
 ·show ((S.H++[dA S s]).set _ _).length=_;rw [List.length_set,List.length_append]; rfl
 ·show (S.H++[dA S s]).length=_;rw [List.length_append]; rfl
theorem zO (S:ES) (s:List Int):∃d,(aY S s).H[S.H.length]?=some d/\d.ls=s/\d.at_=xy S/\d.gone=false/\(1<s.length->d.e0=s.headD 0/\d.e1=nQ S s.tail):=by
 have hl:S.H.length<(S.H++[dA S s]).length:=by rw [List.length_append]; simp
 unfold aY;split
 ·exact ⟨_,List.getElem?_set_self hl,rfl,rfl,rfl,λ_=>⟨rfl,rfl⟩⟩
 ·rename_i hn;exact ⟨dA S s,by show (S.H++[dA S s])[S.H.length]?=_; rw [List.getElem?_append_right (Nat.le_refl _),Nat.sub_self]; rfl,rfl,rfl,rfl,λh=>absurd h hn⟩
theorem VZ {S:ES} (hw:WfE S) (h:Em S (λ_=>False)) {s:List Int} (pS:s.Nodup) (sH:∀x∈s,Wi S.nv x):Em (aY S s) (λ_=>False):=by
 have h1:Em (pz S s) (·=S.H.length):=h.snoc rfl rfl;unfold aY;split
 ·rename_i hlen;match s,hlen with
  | a :: b :: t,_=>
   have hm:nQ S (b :: t)∈b :: t:=qW S (by simp);have bz:a≠nQ S (b :: t):=λe=>(List.nodup_cons.1 pS).1 (e ▸ hm);exact Em.watch h1 (by show (S.H++[_])[S.H.length]?=_; rw [List.getElem?_append_right (Nat.le_refl _),Nat.sub_self]; rfl) (by show a∈a :: b :: t; simp) (by show nQ S (b :: t)∈a :: b :: t; exact List.mem_cons_of_mem _ hm) bz (by show _<S.lists.length; rw [hw.ll]; exact fu (sH a (by simp))) (by show _<S.lists.length; rw [hw.ll]; exact fu (sH _ (List.mem_cons_of_mem _ hm)))
 ·rename_i hlen;intro j d hd hf;refine h1 j d hd λe=>?_;have:=hd.1;rw [e,show (pz S s).H=S.H++[dA S s] from rfl,List.getElem?_append_right (Nat.le_refl _),Nat.sub_self] at this;have h2:=hd.2.2;injection this with this;rw [<-this] at h2;exact hlen h2
theorem oQ (S:ES) (s:List Int):(aY S s).head=S.head/\(aY S s).rest=S.rest/\(aY S s).aQ=false/\(aY S s).dead=S.dead/\(aY S s).ar=(eU S s).ar/\(aY S s).log=S.log++[(false,s)]:=by
 unfold aY; split<;>exact ⟨rfl,rfl,rfl,rfl,rfl,rfl⟩
theorem Iz.gE {S:ES} (h:Iz S) (hc:S.aQ=true) {back:Int} {s:List Int} (hf:Lf S back s) (g_:S.H.length+1<=8796093022208) (hle:S.aC.length+1<=8796093022208):Iz (cU S back s):=by
 obtain ⟨q,hq,_⟩:=h.iw;have uk:=hf.bl;have hI:=h.toInv.gE g_ hle hf.ne hf.wi hf.nd (by have:=hf.ln; have:=h.nv; omega) hf.b0 (Int.le_of_lt uk) hf.fr hf.hu;obtain ⟨g1,_,g6,g7⟩:=wE S s;obtain ⟨_,_,e5,e6,e7⟩:=oJ S s;obtain ⟨f1,f2,f3,f4,_⟩:=oQ S s;obtain ⟨dn,n1,n2,n3,n4,n5⟩:=zO S s;have hEm:Em (aY S s) (λ_=>False):=VZ h.toWfE (λk d hd _=>⟨hq.ey k d hd,hq.mm k d hd⟩) hf.nd hf.wi;have aM:=CX h.st hf.b0 uk hq.lv;have xq:(cU S back s).head=(upto back S.R).length:=by
  show min (aY S s).head (upto back (aY S s).R).length=_;rw [f1,e5]; exact Nat.min_eq_right (Nat.le_trans aM hq.hd)
 have hR:(cU S back s).R=upto back S.R++[(⟨s.headD 0,back,xy S⟩:E)]:=by
  show upto back (aY S s).R++[(⟨s.headD 0,(((aY S s).L.take back.toNat).length:Nat),xy S⟩:E)]=_;rw [e5,e6,List.length_take];have:((min back.toNat S.L.length:Nat):Int)=back:=by have:=hf.b0; omega
  rw [this]
 have hL:(cU S back s).L=S.L.take back.toNat:=by show (aY S s).L.take _=_; rw [e6]
 have hLl:((cU S back s).L.length:Int)=back:=by rw [hL,List.length_take]; have:=hf.b0; omega
 have hH:(cU S back s).H=(aY S s).H:=rfl;have hTc:∀d,T0 S d->T0 (cU S back s) d:=λd ⟨x,hx,f,E_,Fc,Oi⟩=>⟨x,hx,f,by rw [hR]; exact List.mem_append_left _ (c_.2 ⟨E_,by rw [Oi]; exact hf.b0⟩),Fc,Oi⟩
 obtain ⟨_,yD⟩:=Trail.gz hf.fr;have wA:∀u o,Ob S q u o->Ob (cU S back s) (upto back S.R).length u o:=λu o hb p e hp he hl=>by
  rw [hR,List.getElem?_append_left hp] at he;have hm:=c_.1 (List.mem_of_getElem? he);rw [(jD h.st hf.b0 (Int.le_of_lt uk)).1,List.getElem?_take] at he;split at he
  ·obtain ⟨f,E_,Fc,Oi⟩:=hb p e (by omega) he hl;exact ⟨f,by rw [hR]; exact List.mem_append_left _ (c_.2 ⟨E_,by omega⟩),Fc,Oi⟩
  ·cases he
 refine ⟨hI,⟨_,⟨Nat.le_refl _,by rw [xq,hR,List.length_append]; exact Nat.le_add_right _ _,λp e hp he=>?_,λk d hd=>(hEm k d hd λh=>h).1,λk d hd=>(hEm k d hd λh=>h).2,λk d hd=>?_⟩,λ_ _=>rfl⟩,λk hk d hd hl=>?_,λhh k hk d hd=>?_,λhh=>?_,λhh=>?_⟩
 ·rw [xq] at hp;rw [hR,List.getElem?_append_right hp] at he;have mR:=List.mem_of_getElem? he;rw [List.mem_singleton] at mR;rw [mR,hLl]
 ·rw [xq];by_cases hk:k<S.H.length
  ·have e_:Wd S k d:=⟨ve S s hk hd.1,hd.2.1,hd.2.2⟩
   exact ⟨wA _ _ (hq.ob k d e_).1,wA _ _ (hq.ob k d e_).2⟩
  ·have pX:k<(aY S s).H.length:=(List.getElem?_eq_some_iff.1 hd.1).1;rw [zN] at pX;have hke:k=S.H.length:=by omega
   subst hke;have tg:(aY S s).H[S.H.length]?=some d:=hd.1;rw [n1] at tg; injection tg with tg; subst tg;have sr:1<s.length:=by rw [<-n2]; exact hd.2.2
   obtain ⟨p0,p1⟩:=n5 sr;rw [p0,p1];have SY:s.tail≠[]:=λe=>by have:=congrArg List.length e; rw [List.length_tail] at this; simp at this; omega
   have WU:=qW S SY;refine ⟨λp e hp he hl=>?_,λp e hp he hl=>?_⟩
   ·rw [hR,List.getElem?_append_left hp] at he;exact absurd (by rw [hl,Int.natAbs_neg]) (yD e (List.mem_of_getElem? he))
   ·refine ⟨⟨s.headD 0,back,xy S⟩,by rw [hR]; exact List.mem_append_right _ (List.mem_singleton.2 rfl),rfl,?_⟩;rw [hR,List.getElem?_append_left hp] at he;have pq:=(c_.1 (List.mem_of_getElem? he)).1;obtain ⟨x,hx,f,E_,Fc,Oi⟩:=hf.mx sr;have:=RL S s.tail x hx;rw [Ky h.st E_ Fc,Ky h.st pq hl,Oi] at this;exact this
 ·have gq:k∈(aY S s).aC:=hk;rw [g7] at gq;have e_:(aY S s).H[k]?=some d:=hd;rcases List.mem_append.1 gq with gq | gq
  ·exact hTc d (h.un k gq d (ve S s (h.le k gq) e_) hl)
  ·rw [List.mem_singleton.1 gq,n1] at e_;injection e_ with e_; subst e_;refine ⟨s.headD 0,by rw [n2]; cases s with
    | nil=>exact absurd rfl hf.ne
    | cons a t=>simp,⟨s.headD 0,back,xy S⟩,by rw [hR]; exact List.mem_append_right _ (List.mem_singleton.2 rfl),rfl,hf.m1 (by rw [<-n2]; exact hl)⟩
 ·have gq:k∈(aY S s).short:=hk;rw [g6] at gq;refine hTc d (h.ss (Or.inl λe=>?_) k gq d (ve S s (h.sh k gq) hd));rw [e] at uk; have:=hf.b0; simp at uk; omega
 ·have:(aY S s).rest=true:=hh;rw [f2] at this;have:=(h.re this).1;rw [hc] at this; cases this
 ·have:(aY S s).aQ=true:=hh;rw [f3] at this; cases this
theorem Iz.dead {S:ES} (h:Iz S) (hc:S.aQ=true):Iz (tC S):=by
 obtain ⟨q,hq,_⟩:=h.iw;have hw:WF (tC S):=(h.toWF.self S.head S.rest false true S.bad).note false [];refine ⟨⟨hw,h.rs.to rfl λk d hd=>⟨d,hd,rfl,rfl⟩,h.pl.to rfl λk d hd=>⟨d,hd,rfl,rfl,rfl⟩,h.rg,h.s1,h.sg,h.dj⟩,⟨q,⟨hq.hd,hq.hl,hq.lv,hq.ey,hq.mm,hq.ob⟩,λ_ hd=>by cases hd⟩,h.un,h.ss,λhh=>?_,λhh=>by cases hh⟩;have:=(h.re hh).1;rw [hc] at this; cases this
noncomputable def aN (S:ES):ES:=if S.aQ=false then S else if (oP S).2=[] then tC S else cU S (oP S).1 (pQ S)
theorem Iz.aN {S:ES} (h:Iz S) (hl:Lz S) (g_:S.H.length+1<=8796093022208) (hle:S.aC.length+1<=8796093022208):Iz (aN S):=by
 unfold bp.aN;split
 ·exact h
 ·rename_i hc;have hc:S.aQ=true:=by cases h1:S.aQ<;>simp_all
  split
  ·exact h.dead hc
  ·rename_i bz;rcases kL h hl hc with ⟨e,_⟩ | ⟨_,_,_,hf⟩
   ·exact absurd e bz
   ·exact h.gE hc hf g_ hle
theorem Lz.gE {S:ES} (h:Lz S) {back:Int} {s:List Int} (hf:Lf S back s):Lz (cU S back s):=by
 obtain ⟨e1,⟨dn,n1,n2,n3⟩,e5,e6,e7⟩:=oJ S s;have h1:Lz (fE (aY S s) back):=(h.to e5 e1).cut back;have hLl:((fE (aY S s) back).L.length:Int)=back:=by
  show (((aY S s).L.take back.toNat).length:Int)=back;rw [e6,List.length_take]; have:=hf.b0; have:=hf.bl; omega
 refine h1.put λ_ bz=>?_;have sr:1<s.length:=by
  apply Classical.byContradiction;intro hn;have:=hf.m1 (by omega);exact bz (List.eq_nil_of_length_eq_zero (by omega))
 obtain ⟨x,hx,f,E_,Fc,Oi⟩:=hf.mx sr;refine ⟨S.H.length,dn,n1,n3,x,by rw [n2]; exact List.mem_of_mem_tail hx,λe=>?_,f,c_.2 ⟨by rw [e5]; exact E_,by omega⟩,Fc,by rw [hLl]; exact Oi⟩;cases s with
 | nil=>cases hx
 | cons a t=>exact (List.nodup_cons.1 hf.nd).1 (show a∈t from (show x=a from e) ▸ hx)
theorem Lz.aN {S:ES} (hz:Iz S) (h:Lz S):Lz (aN S):=by
 unfold bp.aN;split
 ·exact h
 ·rename_i hc;have hc:S.aQ=true:=by cases h1:S.aQ<;>simp_all
  split
  ·exact h.to rfl λk d hd=>⟨d,hd,rfl,rfl⟩
  ·rename_i bz;rcases kL hz h hc with ⟨e,_⟩ | ⟨_,_,_,hf⟩
   ·exact absurd e bz
   ·exact h.gE hf
end bp
namespace bp
open Go Vc T
open Trail (E St bW upto bZ)
open bt (bg)
open dw (fl bx Td)
structure Cz (av:List (List Int)) (S:ES):Prop where
 src:∀(k:Nat) (d:Hd),S.H[k]?=some d->d.gone=false->k∉S.aC->∃c∈av,∀x,x∈c↔x∈d.ls
 cov:∀c∈av,(∃x∈c, -x∈c)\/∃(k:Nat) (d:Hd),S.H[k]?=some d/\d.gone=false/\k∉S.aC/\∀x,x∈c↔x∈d.ls
 sho:∀(k:Nat) (d:Hd),S.H[k]?=some d->d.gone=false->k∉S.aC->d.ls.length<2->k∈S.short
 lrn:∀k∈S.aC,∃d,S.H[k]?=some d/\d.gone=false
 lnd:S.aC.Nodup
 zs:∀c∈av,∀x∈c,Wi S.nv x
variable {av:List (List Int)} {S S':ES}
theorem Cz.to (h:Cz av S) (h1:S'.aC=S.aC) (h2:S'.short=S.short) (h3:S'.nv=S.nv) (hb:∀(k:Nat) (d':Hd),S'.H[k]?=some d'->∃d,S.H[k]?=some d/\d'.ls=d.ls/\d'.gone=d.gone) (hf:∀(k:Nat) (d:Hd),S.H[k]?=some d->∃d',S'.H[k]?=some d'/\d'.ls=d.ls/\d'.gone=d.gone):Cz av S':=by
 refine ⟨λk d hd hg hk=>?_,λc hc=>?_,λk d hd hg hk hl=>?_,λk hk=>?_,by rw [h1]; exact h.lnd,by rw [h3]; exact h.zs⟩
 ·obtain ⟨d0,g1,g2,g3⟩:=hb k d hd;rw [h1] at hk; rw [g2]; exact h.src k d0 g1 (g3 ▸ hg) hk
 ·rcases h.cov c hc with q | ⟨k,d,a,b,e,f⟩
  ·exact Or.inl q
  ·obtain ⟨d',g1,g2,g3⟩:=hf k d a;exact Or.inr ⟨k,d',g1,g3.trans b,by rw [h1]; exact e,by rw [g2]; exact f⟩
 ·obtain ⟨d0,g1,g2,g3⟩:=hb k d hd;rw [h1] at hk; rw [h2]; exact h.sho k d0 g1 (g3 ▸ hg) hk (g2 ▸ hl)
 ·rw [h1] at hk;obtain ⟨d,a,b⟩:=h.lrn k hk;obtain ⟨d',g1,g2,g3⟩:=hf k d a;exact ⟨d',g1,g3.trans b⟩
theorem Cz.same (h:Cz av S) (h1:S'.aC=S.aC) (h2:S'.short=S.short) (h3:S'.nv=S.nv) (hH:S'.H=S.H):Cz av S':=
 h.to h1 h2 h3 (λk d hd=>⟨d,by rw [<-hH]; exact hd,rfl,rfl⟩) λk d hd=>⟨d,by rw [hH]; exact hd,rfl,rfl⟩
theorem Cz.spread (hz:Iz S) (h:Cz av S):Cz av (spread S).1:=by
 have hf:=hz.toInv.spread.2;exact h.to hf.aC hf.short hf.nv (λk d hd=>by
  obtain ⟨d0,a,b,_,c⟩:=hf.pW k d hd;exact ⟨d0,a,b,c⟩) λk d hd=>by
  obtain ⟨d0,a,b,_,c⟩:=hf.fwd (k:=k) (d:=d) hd;exact ⟨d0,a,b,c⟩
theorem Cz.dec (h:Cz av S) (l:Int):Cz av (dG S l):=by unfold dG; split<;>exact h.same rfl rfl rfl rfl
theorem Cz.aR (h:Cz av S):Cz av (aR S).2:=by unfold bp.aR; split<;>exact h.same rfl rfl rfl rfl
theorem Cz.dead (h:Cz av S):Cz av (tC S):=h.same rfl rfl rfl rfl
theorem Cz.gE (hw:WfS S) (h:Cz av S) (back:Int) (s:List Int):Cz av (cU S back s):=by
 obtain ⟨g1,_,g6,g7⟩:=wE S s;obtain ⟨dn,n1,n2,n3,n4,_⟩:=zO S s;have e7:(aY S s).nv=S.nv:=(oJ S s).2.2.2.2;have aM:∀{k:Nat} {d:Hd},(aY S s).H[k]?=some d->k∉S.aC++[S.H.length]->S.H[k]?=some d/\k∉S.aC:=λ{k d} hd hk=>by
  rw [List.mem_append,not_or,List.mem_singleton] at hk;have:=(List.getElem?_eq_some_iff.1 hd).1;rw [zN] at this;exact ⟨ve S s (by omega) hd,hk.1⟩
 refine ⟨λk d hd hg hk=>?_,λc hc=>?_,λk d hd hg hk hl=>?_,λk hk=>?_,?_,?_⟩
 ·have gq:k∉(aY S s).aC:=hk;rw [g7] at gq;obtain ⟨a,b⟩:=aM hd gq;exact h.src k d a hg b
 ·rcases h.cov c hc with q | ⟨k,d,a,b,e,f⟩
  ·exact Or.inl q
  ·refine Or.inr ⟨k,d,g1 k d a,b,?_,f⟩;show k∉(aY S s).aC;rw [g7,List.mem_append,not_or,List.mem_singleton];exact ⟨e,λq=>by have:=(List.getElem?_eq_some_iff.1 a).1; omega⟩
 ·have gq:k∉(aY S s).aC:=hk;rw [g7] at gq;obtain ⟨a,b⟩:=aM hd gq;show k∈(aY S s).short;rw [g6]; exact h.sho k d a hg b hl
 ·have gq:k∈(aY S s).aC:=hk;rw [g7] at gq;rcases List.mem_append.1 gq with gq | gq
  ·obtain ⟨d,a,b⟩:=h.lrn k gq;exact ⟨d,g1 k d a,b⟩
  ·rw [List.mem_singleton.1 gq]; exact ⟨dn,n1,n4⟩
 ·show (aY S s).aC.Nodup;rw [g7,List.nodup_append];exact ⟨h.lnd,by simp,λa ha b hb e=>by rw [List.mem_singleton.1 hb] at e; have:=hw.le a ha; omega⟩
 ·show ∀c∈av,∀x∈c,Wi (aY S s).nv x;rw [e7]; exact h.zs
theorem Cz.aN (hz:Iz S) (h:Cz av S):Cz av (aN S):=by
 unfold bp.aN;split
 ·exact h
 ·split
  ·exact h.dead
  ·exact h.gE hz.toWfS _ _
theorem MP {l:List Nat} (hn:l.Nodup) {i k:Nat} (hk:l[i]?=some k) (j:Nat):j∈l.eraseIdx i↔j∈l/\j≠k:=by
 induction l generalizing i with
 | nil=>simp at hk
 | cons a l ih=>
  rw [List.nodup_cons] at hn;cases i with
  | zero=>
   have:a=k:=by simpa using hk
   subst this;rw [List.eraseIdx_zero,List.tail_cons,List.mem_cons];exact ⟨λh=>⟨Or.inr h,λe=>hn.1 (e ▸ h)⟩,λ⟨h,bz⟩=>h.resolve_left bz⟩
  | succ i=>
   have gq:l[i]?=some k:=by simpa using hk
   rw [List.eraseIdx_cons_succ,List.mem_cons,List.mem_cons,ih hn.2 gq];constructor
   ·rintro (rfl | ⟨h,bz⟩)
    ·exact ⟨Or.inl rfl,λe=>hn.1 (e ▸ List.mem_of_getElem? gq)⟩
    ·exact ⟨Or.inr h,bz⟩
   ·rintro ⟨rfl | h,bz⟩
    ·exact Or.inl rfl
    ·exact Or.inr ⟨h,bz⟩
theorem Cz.forget (h:Cz av S) (i:Int):Cz av (forget S i).2:=by
 unfold bp.forget;split
 ·exact h
 ·split
  ·exact h
  ·split
   ·exact h
   ·rename_i k hk;split
    ·exact h
    ·rename_i d hd;split
     ·exact h
     ·have pX:=(List.getElem?_eq_some_iff.1 hd).1;have pI:=MP h.lnd hk;have VW:k∈S.aC:=List.mem_of_getElem? hk;have hHb:∀(j:Nat) (d':Hd),(S.H.set k {d with gone:=true})[j]?=some d'->d'.gone=false->S.H[j]?=some d'/\j≠k:=λj d' hj hg=>by
       rw [List.getElem?_set] at hj;by_cases f_:k=j
       ·subst f_;rw [if_pos rfl,if_pos pX] at hj;injection hj with hj; subst hj; cases hg
       ·rw [if_neg f_] at hj; exact ⟨hj,λe=>f_ e.symm⟩
      have hHf:∀(j:Nat) (d':Hd),S.H[j]?=some d'->j≠k->(S.H.set k {d with gone:=true})[j]?=some d':=λj d' hj bz=>by
       rw [List.getElem?_set_ne (λe=>bz e.symm)]; exact hj
      refine ⟨λj d' hj hg Uc=>?_,λc hc=>?_,λj d' hj hg Uc hl=>?_,λj hj=>?_,h.lnd.sublist (List.eraseIdx_sublist _ _),h.zs⟩
      ·obtain ⟨a,b⟩:=hHb j d' hj hg;exact h.src j d' a hg λq=>Uc ((pI j).2 ⟨q,b⟩)
      ·rcases h.cov c hc with q | ⟨j,d',a,b,e,f⟩
       ·exact Or.inl q
       ·exact Or.inr ⟨j,d',hHf j d' a (λq=>e (q ▸ VW)),b,λq=>e ((pI j).1 q).1,f⟩
      ·obtain ⟨a,b⟩:=hHb j d' hj hg;exact h.sho j d' a hg (λq=>Uc ((pI j).2 ⟨q,b⟩)) hl
      ·obtain ⟨a,b⟩:=(pI j).1 hj;obtain ⟨d',g1,g2⟩:=h.lrn j a;exact ⟨d',hHf j d' g1 b,g2⟩
theorem Cz.cG {cs:List (List Int)} (h:Cz cs S) (hle:S.aC=[]) (hw:WfS S) {c:List Int} (hc:∀x∈c,Wi S.nv x):Cz (cs++[c]) (cG S c):=by
 have hf:∀x∈c,fl x=true:=λx hx=>iA hw.nv (hc x hx);have hT:=lI hf;have hs:∀x,x∈c↔x∈(cE S c).ls:=λx=>⟨λhx=>(hT.mem x).2 ⟨hx,hf x hx⟩,λhx=>((hT.mem x).1 hx).1⟩
 have su:(S.H++[cE S c])[S.H.length]?=some (cE S c):=by rw [List.getElem?_append_right (Nat.le_refl _),Nat.sub_self]; rfl
 have hz:∀c'∈cs++[c],∀x∈c',Wi S.nv x:=λc' kH=>by
  rcases List.mem_append.1 kH with q | q
  ·exact h.zs c' q
  ·rw [List.mem_singleton.1 q]; exact hc
 -- a clause more acK is held
 have hold:∀(S1:ES),S1.aC=[]->S1.nv=S.nv->(∀(k:Nat) (d':Hd),S1.H[k]?=some d'->∃d,(S.H++[cE S c])[k]?=some d/\d'.ls=d.ls/\d'.gone=d.gone)->(∀(k:Nat) (d:Hd),(S.H++[cE S c])[k]?=some d->∃d',S1.H[k]?=some d'/\d'.ls=d.ls/\d'.gone=d.gone)->(∀k∈S.short,k∈S1.short)->((cE S c).ls.length<2->S.H.length∈S1.short)->Cz (cs++[c]) S1:=λS1 e1 e2 hb hfw BC U6=>by
  refine ⟨λk d hd hg hk=>?_,λc' kH=>?_,λk d hd hg hk hl=>?_,(λk hk=>by rw [e1] at hk; cases hk),by rw [e1]; exact List.nodup_nil,by rw [e2]; exact hz⟩
  ·obtain ⟨d0,a,b,g⟩:=hb k d hd;rcases eB a with ⟨_,a⟩ | ⟨_,rfl⟩
   ·obtain ⟨c',h1,h2⟩:=h.src k d0 a (g ▸ hg) (by rw [hle]; simp);exact ⟨c',List.mem_append_left _ h1,by rw [b]; exact h2⟩
   ·exact ⟨c,by simp,by rw [b]; exact hs⟩
  ·rcases List.mem_append.1 kH with q | q
   ·rcases h.cov c' q with q | ⟨k,d,a,b,e,f⟩
    ·exact Or.inl q
    ·obtain ⟨d',g1,g2,g3⟩:=hfw k d (by rw [List.getElem?_append_left (List.getElem?_eq_some_iff.1 a).1]; exact a);exact Or.inr ⟨k,d',g1,g3.trans b,by rw [e1]; simp,by rw [g2]; exact f⟩
   ·rw [List.mem_singleton.1 q];obtain ⟨d',g1,g2,g3⟩:=hfw _ _ su;exact Or.inr ⟨_,d',g1,g3,by rw [e1]; simp,by rw [g2]; exact hs⟩
  ·obtain ⟨d0,a,b,g⟩:=hb k d hd;rcases eB a with ⟨_,a⟩ | ⟨rfl,rfl⟩
   ·exact BC k (h.sho k d0 a (g ▸ hg) (by rw [hle]; simp) (b ▸ hl))
   ·exact U6 (b ▸ hl)
 unfold bp.cG;split
 ·rename_i ht;refine ⟨λk d hd hg hk=>?_,λc' kH=>?_,h.sho,h.lrn,h.lnd,hz⟩
  ·obtain ⟨c',h1,h2⟩:=h.src k d hd hg hk;exact ⟨c',List.mem_append_left _ h1,h2⟩
  ·rcases List.mem_append.1 kH with q | q
   ·exact h.cov c' q
   ·rw [List.mem_singleton.1 q]; exact Or.inl ((BE c).1 ht)
 ·split
  ·exact hold _ hle rfl (λk d hd=>⟨d,hd,rfl,rfl⟩) (λk d hd=>⟨d,hd,rfl,rfl⟩) (λk hk=>List.mem_append_left _ hk) λ_=>List.mem_append_right _ (List.mem_singleton.2 rfl)
  ·rename_i aM;refine hold _ hle rfl (λk d hd=>?_) (λk d hd=>?_) (λk hk=>hk) λq=>absurd q aM
   ·obtain ⟨d0,a,b,_,e⟩:=CW (S:={eU S c with H:=S.H++[cE S c]}) (k:=S.H.length) (d:=cE S c) su ((dL c).headD 0) ((dL c).tail.headD 0) k d hd;exact ⟨d0,a,b,e⟩
   ·show ∃d',((S.H++[cE S c]).set S.H.length _)[k]?=some d'/\_;rw [List.getElem?_set];by_cases hk:S.H.length=k
    ·subst hk;rw [su] at hd; injection hd with hd; subst hd;rw [if_pos rfl,if_pos (by rw [List.length_append]; simp)];exact ⟨_,rfl,rfl,rfl⟩
    ·rw [if_neg hk]; exact ⟨d,hd,rfl,rfl⟩
theorem Kz {nv:Nat} (dS:nv<=1048576) {av:List (List Int)} (hn:av.length<=1048576) (hl:∀es∈av,es.length<=1048576) (hw:∀es∈av,∀x∈es,Wi nv x):Cz av (jc nv av)/\(jc nv av).ar.cs=av:=by
 have key:∀i,i<=av.length->NI ((av.take i).foldl bp.cG (E0 nv)) i/\((av.take i).foldl bp.cG (E0 nv)).nv=nv/\((av.take i).foldl bp.cG (E0 nv)).aC=[]/\Cz (av.take i) ((av.take i).foldl bp.cG (E0 nv))/\((av.take i).foldl bp.cG (E0 nv)).ar.cs=av.take i:=λi=>by
  induction i with
  | zero=>exact λ_=>⟨ni0 dS,rfl,rfl,⟨λk d hd=>by simp [E0] at hd,λc hc=>by simp at hc,λk d hd=>by simp [E0] at hd,λk hk=>by simp [E0] at hk,List.nodup_nil,λc hc=>by simp at hc⟩,rfl⟩
  | succ i ih=>
   intro hi;obtain ⟨h1,h2,h3,h4,h5⟩:=ih (by omega);obtain ⟨es,oH⟩:=bg (show i<av.length by omega);have pq:=List.mem_of_getElem? oH;rw [cm oH,List.foldl_append];obtain ⟨r1,r0,_,_⟩:=rP ((av.take i).foldl bp.cG (E0 nv)) es;have r2:=(Fb ((av.take i).foldl bp.cG (E0 nv)) es).2.2.1;refine ⟨h1.step (by rw [h2]; exact hw es pq) (hl es pq) (by omega),r0.trans h2,r2.trans h3,h4.cG h3 h1.wf (by rw [h2]; exact hw es pq),?_⟩;show (bp.cG ((av.take i).foldl bp.cG (E0 nv)) es).ar.cs=_;rw [r1];show ((av.take i).foldl bp.cG (E0 nv)).ar.cs++[es]=_;rw [h5]
 have hk:=key av.length (Nat.le_refl _);rw [List.take_length] at hk;exact ⟨hk.2.2.2.1,hk.2.2.2.2⟩
end bp
namespace bp
open Go Vc T
open Trail (E St bW upto bZ)
open bt (bg)
open dw (fl bx Td)
open bU (RsC wH)
structure Iq (av:List (List Int)) (S:ES):Prop where
 iz:Iz S
 lz:Lz S
 cz:Cz av S
variable {av:List (List Int)} {S:ES}
theorem KA {nv:Nat} (dS:nv<=1048576) {av:List (List Int)} (hn:av.length<=1048576) (hl:∀es∈av,es.length<=1048576) (hw:∀es∈av,∀x∈es,Wi nv x):Iq av (jc nv av):=
 ⟨VX dS hn hl hw,(λe he=>by rw [(oI dS hn hl hw).2.2.1] at he; cases he),(Kz dS hn hl hw).1⟩
theorem Iq.spread (h:Iq av S):Iq av (spread S).1:=⟨h.iz.spread,h.lz.spread h.iz,h.cz.spread h.iz⟩
theorem Iq.dec (h:Iq av S) (l:Int):Iq av (dG S l):=⟨h.iz.dec l,h.lz.dec l,h.cz.dec l⟩
theorem Iq.aR (h:Iq av S):Iq av (aR S).2:=⟨h.iz.aR,h.lz.aR,h.cz.aR⟩
theorem Iq.forget (h:Iq av S) (i:Int):Iq av (forget S i).2:=⟨h.iz.forget i,h.lz.forget i,h.cz.forget i⟩
theorem Iq.gE (h:Iq av S) (g_:S.H.length+1<=8796093022208) (hle:S.aC.length+1<=8796093022208):Iq av (aN S):=⟨h.iz.aN h.lz g_ hle,h.lz.aN h.iz,h.cz.aN h.iz⟩
def Fo (av:List (List Int)) (S:ES):List (List Int):=av++aU S
theorem rS {k:Nat} {d:Hd} (h:S.H[k]?=some d):c7 S k=d.ls:=by unfold c7; rw [h]; rfl
theorem qZ {c:List Int} (hc:Cz av S):c∈aU S↔∃(k:Nat) (d:Hd),k∈S.aC/\S.H[k]?=some d/\d.gone=false/\c=d.ls:=by
 unfold aU;rw [List.mem_map];constructor
 ·rintro ⟨k,hk,rfl⟩;obtain ⟨d,a,b⟩:=hc.lrn k hk;exact ⟨k,d,hk,a,b,rS a⟩
 ·rintro ⟨k,d,a,b,_,rfl⟩;exact ⟨k,a,rS b⟩
theorem Fp (hc:Cz av S) {c:List Int} (h:c∈Fo av S):(∃x∈c, -x∈c)\/∃(k:Nat) (d:Hd),S.H[k]?=some d/\d.gone=false/\(∀x,x∈c↔x∈d.ls)/\(k∈S.aC\/(k∉S.aC/\(d.ls.length<2->k∈S.short))):=by
 rcases List.mem_append.1 h with h | h
 ·rcases hc.cov c h with q | ⟨k,d,a,b,e,f⟩
  ·exact Or.inl q
  ·exact Or.inr ⟨k,d,a,b,f,Or.inr ⟨e,hc.sho k d a b e⟩⟩
 ·obtain ⟨k,d,a,b,e,rfl⟩:=(qZ hc).1 h;exact Or.inr ⟨k,d,b,e,λx=>Iff.rfl,Or.inl a⟩
theorem Fq (hc:Cz av S) {k:Nat} {d:Hd} (hd:S.H[k]?=some d) (hg:d.gone=false):∃c∈Fo av S,∀x,x∈c↔x∈d.ls:=by
 by_cases hk:k∈S.aC
 ·exact ⟨d.ls,List.mem_append_right _ ((qZ hc).2 ⟨k,d,hk,hd,hg,rfl⟩),λx=>Iff.rfl⟩
 ·obtain ⟨c,a,b⟩:=hc.src k d hd hg hk;exact ⟨c,List.mem_append_left _ a,b⟩
theorem abD (h:Iq av S) {c:List Int} (hc:c∈Fo av S):∀x∈c,Wi S.nv x:=by
 rcases List.mem_append.1 hc with hc | hc
 ·exact h.cz.zs c hc
 ·obtain ⟨k,d,a,b,e,rfl⟩:=(qZ h.cz).1 hc;exact (h.iz.hl k d b).1
def q_ (S:ES) (d:Int):List Int:=(upto d S.R).map E.lit
theorem lJ {d x:Int} : x∈q_ S d↔∃e∈S.R,e.lit=x/\e.lv<=d:=by
 unfold q_;rw [List.mem_map];exact ⟨λ⟨e,he,hl⟩=>⟨e,(c_.1 he).1,hl,(c_.1 he).2⟩,λ⟨e,he,hl,hv⟩=>⟨e,c_.2 ⟨he,hv⟩,hl⟩⟩
theorem Fs (h:Iq av S) (hr:S.rest=true) {d:Int} (hd:0<=d):abw (Fo av S) (q_ S d):=by
 intro c hc;obtain ⟨r1,r2,r3⟩:=h.iz.re hr;obtain ⟨q,hq,Lu⟩:=h.iz.iw;rw [Lu r1 r2] at hq;have t0:∀d',(∀x,x∈c↔x∈d'.ls)->T0 S d'->∃x∈c,x∈q_ S d:=λd' hs ⟨x,hx,f,hf,h1,h2⟩=>⟨x,(hs x).2 hx,lJ.2 ⟨f,hf,h1,by omega⟩⟩
 rcases Fp h.cz hc with q | ⟨k,d',a,b,hs,hk⟩
 ·exact Or.inl q
 by_cases hlen:d'.ls.length<2
 ·rcases hk with hk | ⟨_,hk⟩
  ·exact Or.inr (Or.inl (t0 d' hs (h.iz.un k hk d' a hlen)))
  ·exact Or.inr (Or.inl (t0 d' hs (h.iz.ss (Or.inr hr) k (hk hlen) d' a)))
 ·have hw:Wd S k d':=⟨a,b,by omega⟩
  obtain ⟨e1,e2,e3⟩:=hq.ey k d' hw;obtain ⟨o1,o2⟩:=hq.ob k d' hw;have key:∀u o,o∈d'.ls->Ob S S.head u o-> -u∈q_ S d->∃x∈c,x∈q_ S d:=λu o ho hb hu=>by
   obtain ⟨e,he,h1,h2⟩:=lJ.1 hu;obtain ⟨p,hp⟩:=List.mem_iff_getElem?.1 he;obtain ⟨f,hf,g1,g2⟩:=hb p e (by rw [r3]; exact (List.getElem?_eq_some_iff.1 hp).1) hp h1;exact ⟨o,(hs o).2 ho,lJ.2 ⟨f,hf,g1,by omega⟩⟩
  by_cases h0 : -d'.e0∈q_ S d
  ·exact Or.inr (Or.inl (key _ _ e2 o1 h0))
  ·by_cases h1 : -d'.e1∈q_ S d
   ·exact Or.inr (Or.inl (key _ _ e1 o2 h1))
   ·exact Or.inr (Or.inr ⟨_,(hs _).2 e1,_,(hs _).2 e2,e3,h0,h1⟩)
theorem MQ (h:Iq av S) (hc:S.aQ=true) {back:Int} {s:List Int} (hf:Lf S back s) {c:List Int} (Kh:c∈Fo av S):¬∀x,x∈c↔x∈s:=by
 intro hs;obtain ⟨q,hq,_⟩:=h.iz.iw;have uk:=hf.bl;have II:∀x∈s,∃e∈S.R,e.lit=-x/\(x≠s.headD 0->e.lv<S.L.length):=λx hx=>by
  by_cases yw:x=s.headD 0
  ·obtain ⟨e,he,h1,_⟩:=hf.hd;exact ⟨e,he,by rw [yw]; exact h1,λbz=>absurd yw bz⟩
  ·obtain ⟨e,he,h1⟩:=hf.hu x hx yw;obtain ⟨h2,h3⟩:=c_.1 he;exact ⟨e,h2,h1,λ_=>by omega⟩
 have dO:∀x∈s,∀f∈S.R,f.lit≠x:=λx hx f hf hl=>by
  obtain ⟨e,he,h1,_⟩:=II x hx;exact Ku h.iz.st he hf (by omega)
 have al5:S.L≠[]:=λe=>by rw [e] at uk; have:=hf.b0; simp at uk; omega
 have t0:∀d',(∀x,x∈c↔x∈d'.ls)->¬T0 S d':=λd' e_ ⟨x,hx,f,hf,h1,_⟩=>dO x ((hs x).1 ((e_ x).2 hx)) f hf h1;rcases Fp h.cz Kh with ⟨x,hx,Yc⟩ | ⟨k,d',a,b,e_,hk⟩
 ·obtain ⟨e,he,h1,_⟩:=II x ((hs x).1 hx);exact dO _ ((hs _).1 Yc) e he h1
 by_cases hlen:d'.ls.length<2
 ·rcases hk with hk | ⟨_,hk⟩
  ·exact t0 d' e_ (h.iz.un k hk d' a hlen)
  ·exact t0 d' e_ (h.iz.ss (Or.inl al5) k (hk hlen) d' a)
 ·have hw:Wd S k d':=⟨a,b,by omega⟩
  obtain ⟨e1,e2,e3⟩:=hq.ey k d' hw;obtain ⟨o1,o2⟩:=hq.ob k d' hw;have key:∀u o,u∈d'.ls->o∈d'.ls->u≠s.headD 0->Ob S q u o->False:=λu o hu ho bz hb=>by
   obtain ⟨e,he,h1,h2⟩:=II u ((hs u).1 ((e_ u).2 hu));obtain ⟨p,hp⟩:=List.mem_iff_getElem?.1 he;have hpq:p<q:=by
    apply Classical.byContradiction;intro hn;have:=hq.lv p e (by omega) hp;have:=h2 bz;omega
   obtain ⟨f,hf,g1,_⟩:=hb p e hpq hp h1;exact dO o ((hs o).1 ((e_ o).2 ho)) f hf g1
  by_cases h0:d'.e0=s.headD 0
  ·exact key _ _ e2 e1 (λe=>e3 (h0.trans e.symm)) o2
  ·exact key _ _ e1 e2 h0 o1
theorem abE {n:Nat} {R:List E} {L:List Int} (h:St n R L):∀e∈R,e.lv=0->0<=e.rs:=by
 induction h with
 | nil=>intro e he; cases he
 | mA _ _ _ hr ih=>
  intro e he h0;rcases List.mem_append.1 he with he | he
  ·exact ih e he h0
  ·rw [List.mem_singleton.1 he]; exact hr
 | @decide R L l _ _ _ ih=>
  intro e he h0;rcases List.mem_append.1 he with he | he
  ·exact ih e he h0
  ·rw [List.mem_singleton.1 he] at h0;exact absurd (show ((L.length+1:Nat):Int)=0 from h0) (by omega)
theorem V0 (h:Iq av S):RsC (Fo av S) (cB S):=λy hy hr=>by
 obtain ⟨e,he,uU⟩:=gX.1 hy;have h0:0<=e.rs:=by
  apply Classical.byContradiction;intro hn;apply hr; rw [<-uU]; unfold kC; rw [if_neg hn]
 obtain ⟨k,d,g1,g2,g3,g4⟩:=zG h.iz.pl h.iz.rg he h0;obtain ⟨c,hc,hs⟩:=Fq h.cz g1 g3;exact ⟨c,hc,λz=>by rw [hs,<-uU,g4]⟩
theorem wI (h:Iq av S) (hc:S.aQ=true):mJ (Fo av S) ((pQ S).map λx=>-x):=by
 have hC:=h.iz.cf hc;obtain ⟨k,d,h1,h2,h3,h4,h5⟩:=(h.iz.kl hc).2.abC h.iz.pl;obtain ⟨c,Kh,hs⟩:=Fq h.cz h1 h2;refine wH hC.fm hC.ln (V0 h) (λy hy hl=>?_) ⟨c,Kh,λz=>by rw [hs,h3]⟩ hC.cf hC.fa (zM hC);obtain ⟨e,he,uU⟩:=gX.1 hy;have h0:=abE h.iz.st e he (by rw [<-hl,<-uU]; rfl);obtain ⟨i,hi⟩:=List.mem_iff_getElem?.1 he;obtain ⟨k',d',g1,g2,g3,g4⟩:=zG h.iz.pl h.iz.rg he h0;obtain ⟨k2,d2,q1,q2,q3,_⟩:=h.iz.rs.rsn i e hi h0;have:=h.iz.pl.inj k' k2 d' d2 g1 q1 (by rw [g2,q2]);subst this;rw [g1] at q1; injection q1 with q1; subst q1;rw [<-uU];exact λe0=>by have:=(g4 e.lit).2 q3; rw [e0] at this; cases this
def Mo (T:Int->Prop) (S:ES):Prop:=∀c∈aU S,∃x∈c,T x
theorem ue (h:Iq av S) (hc:S.aQ=true) {T:Int->Prop} (hT:∀x,T x->¬T (-x)) (yY:∀x,x≠0->T x\/T (-x)) (hF:∀c∈av,∃x∈c,T x) (hM:Mo T S) (h0:∀x∈pQ S,x≠0):∃x∈pQ S,T x:=by
 apply Classical.byContradiction;intro hn;refine IG hT (λc Kh=>?_) (λy hy=>?_) (wI h hc)
 ·rcases List.mem_append.1 Kh with q | q
  ·exact hF c q
  ·exact hM c q
 ·obtain ⟨x,hx,rfl⟩:=List.mem_map.1 hy;exact (yY x (h0 x hx)).resolve_left λht=>hn ⟨x,hx,ht⟩
end bp
namespace bp
open Go Vc T
open mT (Ar words off cw oz)
open Trail (E St bW upto bZ)
open bt (bg)
open dw (fl bx Td)
structure Sz (A B:Nat) (S:ES):Prop where
 h:S.H.length<=A
 a:S.ar.cs.length<=A
 w:(words S.ar.cs).length<=B
 g:S.log.length+S.aC.length<=2*A
 cs:∀c∈S.ar.cs,c.length<=1048576
variable {av:List (List Int)} {A B A' B':Nat} {S S':ES}
theorem Sz.mono (h:Sz A B S) (hA:A<=A') (hB:B<=B'):Sz A' B' S:=⟨Nat.le_trans h.h hA,Nat.le_trans h.a hA,Nat.le_trans h.w hB,by have:=h.g; omega,h.cs⟩
theorem Sz.to (h:Sz A B S) (h1:S'.H.length=S.H.length) (h2:S'.ar.cs=S.ar.cs) (h3:S'.log.length+S'.aC.length<=2*A):Sz A B S':=
 ⟨by rw [h1]; exact h.h,by rw [h2]; exact h.a,by rw [h2]; exact h.w,h3,by rw [h2]; exact h.cs⟩
theorem Sz.spread (hz:Iz S) (h:Sz A B S):Sz A B (spread S).1:=by
 have hf:=hz.toInv.spread.2;exact h.to hf.hlen (by rw [hf.ar]) (by rw [hf.log,hf.aC]; exact h.g)
theorem Sz.dec (h:Sz A B S) (l:Int):Sz A B (dG S l):=by unfold dG; split<;>exact h.to rfl rfl h.g
theorem Sz.aR (h:Sz A B S):Sz A B (aR S).2:=by unfold bp.aR; split<;>exact h.to rfl rfl h.g
theorem Sz.forget (h:Sz A B S) (i:Int):Sz A B (forget S i).2:=by
 unfold bp.forget;split
 ·exact h
 ·split
  ·exact h
  ·split
   ·exact h
   ·rename_i k hk;split
    ·exact h
    ·split
     ·exact h
     ·refine h.to (List.length_set ..) rfl ?_;show (S.log++[_]).length+(S.aC.eraseIdx i.toNat).length<=_;have aM:=(List.getElem?_eq_some_iff.1 hk).1;rw [List.length_append,List.length_eraseIdx,if_pos aM,List.length_singleton];have:=h.g;omega
theorem Sz.dead (h:Sz A B S):Sz (A+1) B (tC S):=by
 refine (h.mono (Nat.le_succ _) (Nat.le_refl _)).to rfl rfl ?_;show (S.log++[_]).length+S.aC.length<=_;have:=h.g;rw [List.length_append,List.length_singleton]; omega
theorem Sz.gE (h:Sz A B S) (back:Int) {s:List Int} (hs:s.length<=S.nv) (dS:S.nv<=1048576):Sz (A+1) (B+S.nv+1) (cU S back s):=by
 obtain ⟨_,_,_,_,f5,f6⟩:=oQ S s;obtain ⟨_,_,_,g7⟩:=wE S s;have e1:(cU S back s).ar.cs=S.ar.cs++[s]:=by show (aY S s).ar.cs=_; rw [f5]; rfl
 have e2:(cU S back s).log=S.log++[(false,s)]:=f6;have e3:(cU S back s).aC=S.aC++[S.H.length]:=g7;refine ⟨by show (aY S s).H.length<=_; rw [zN]; have:=h.h; omega,by rw [e1,List.length_append,List.length_singleton]; have:=h.a; omega,by rw [e1,oz,List.length_append]; unfold cw; have:=h.w; simp only [List.length_cons]; omega,by rw [e2,e3,List.length_append,List.length_append,List.length_singleton,List.length_singleton]; have:=h.g; omega,λc hc=>?_⟩;rw [e1] at hc;rcases List.mem_append.1 hc with q | q
 ·exact h.cs c q
 ·rw [List.mem_singleton.1 q]; omega
theorem Sz.aN (hq:Iq av S) (h:Sz A B S):Sz (A+1) (B+S.nv+1) (aN S):=by
 unfold bp.aN;split
 ·exact h.mono (by omega) (by omega)
 ·rename_i hc;have hc:S.aQ=true:=by cases h1:S.aQ<;>simp_all
  split
  ·exact h.dead.mono (by omega) (by omega)
  ·rename_i bz;rcases kL hq.iz hq.lz hc with ⟨e,_⟩ | ⟨_,_,_,hf⟩
   ·exact absurd e bz
   ·exact h.gE _ hf.ln hq.iz.nv
theorem KB {nv:Nat} (dS:nv<=1048576) {av:List (List Int)} (hn:av.length<=1048576) (hl:∀es∈av,es.length<=1048576) (hw:∀es∈av,∀x∈es,Wi nv x):Sz av.length (av.length*1048577) (jc nv av):=by
 obtain ⟨hN,_,_,_,h1,h2,_⟩:=oI dS hn hl hw;have h3:=(Kz dS hn hl hw).2;exact ⟨hN.h,hN.a,hN.w,by rw [h1,h2]; simp,by rw [h3]; exact hl⟩
theorem zP:∀(cs:List (List Int)) (r:Int),(∀c∈cs,c.length<=1048576)->(qU cs r).length<=1048576
 | [],_,_=>by unfold qU; simp
 | c :: cs,r,h=>by
  unfold qU;split
  ·exact h c (by simp)
  ·exact zP cs _ λc hc=>h c (List.mem_cons_of_mem _ hc)
theorem Sz.get (h:Sz A B S) (r:Int):(gW S.ar r).length<=1048576:=by
 unfold gW;split
 ·exact zP _ _ h.cs
 ·simp
theorem Sz.rs (h:Sz A B S):∀x∈cB S,x.rs.length<=1048576:=λx hx=>by
 obtain ⟨e,_,rfl⟩:=gX.1 hx;unfold kC;dsimp only;split
 ·exact h.get _
 ·simp
def cap:Nat:=549755813888
theorem lok (hq:Iq av S) (h:Sz A B S) (hA:A<=cap) (hB:B<=8796093022208) (hc:S.aQ=true):LOk S 0 (oP S).1 (oP S).2 (pQ S):=by
 have h1:=h.a;have h2:=h.w;have h3:=h.g;have dS:=hq.iz.nv;unfold cap at hA;refine ⟨zM (hq.iz.cf hc),h.rs,h.get _,by omega,by omega,by omega,?_,λbz=>?_⟩
 ·rcases kL hq.iz hq.lz hc with ⟨e,_⟩ | ⟨_,e,_⟩
  ·rw [e]; simp
  ·omega
 ·rcases kL hq.iz hq.lz hc with ⟨e,_⟩ | ⟨_,_,e,hf⟩
  ·exact absurd e bz
  ·exact ⟨e,rfl,hf.ne,hf.wi,hf.b0,Int.le_of_lt hf.bl,hf.fr⟩
noncomputable def dQ (S:ES):List Int×Int×Int:=if S.aQ=false then ([],0,3) else if (oP S).2=[] then ([], -1,0) else (pQ S,(oP S).1,0)
theorem BH (hz:Iz S):(spread S).1.nv=S.nv:=hz.toInv.spread.2.nv
theorem RM (l:Int):(dG S l).nv=S.nv:=by unfold dG; split<;>rfl
theorem zQ:(aR S).2.nv=S.nv:=by unfold aR; split<;>rfl
theorem zR (S:ES):(aN S).nv=S.nv:=by
 unfold aN;split
 ·rfl
 ·split
  ·rfl
  ·show (aY S (pQ S)).nv=S.nv;exact (oJ S (pQ S)).2.2.2.2
theorem MR (i:Int):(forget S i).2.nv=S.nv:=by
 unfold forget;split
 ·rfl
 ·split
  ·rfl
  ·split
   ·rfl
   ·split
    ·rfl
    ·split<;>rfl
end bp
namespace bp
open Go Vc T
open bt (cQ aL aA bg aO Sl sv mE LL)
open mT (words)
open bU (En mF)
open dw (fl bx)
structure Ge (M:Nat->Prop) (w:World) (b:Nat) (av:List (List Int)) (A B:Nat) (S:ES):Prop where
 rp:∃o h,Rp dU w b o h S/\∀i,i<w.heap.size->cA (o i)->M i
 iq:Iq av S
 sz:Sz A B S
 lt:∀i,M i->i<w.heap.size
def Grow (M:Nat->Prop) (w:World) (M':Nat->Prop):Prop:=∀i,M' i->M i\/w.heap.size<=i
structure Af (M:Nat->Prop) (w:World) (b:Nat) (av:List (List Int)) (A B:Nat) (S:ES) (M':Nat->Prop) (w':World):Prop where
 ge:Ge M' w' b av A B S
 gr:Grow M w M'
 kp:af M w w'
section
variable {M M':Nat->Prop} {w w':World} {b:Nat} {av:List (List Int)} {A B A' B':Nat} {S S':ES}
theorem Ge.ax {U:Nat->Prop} (h:Ge M w b av A B S) (hk:af U w w') (hU:∀i,U i->¬M i):Ge M w' b av A B S:=by
 obtain ⟨o,hs,hR,ho⟩:=h.rp;refine ⟨⟨o,hs,hR.Bw hk λi hi hu=>?_,λi hi ht=>?_⟩,h.iq,h.sz,λi hi=>Nat.lt_of_lt_of_le (h.lt i hi) hk.size⟩
 ·apply Classical.byContradiction;intro bz;exact hU i hu (ho i hi bz)
 ·by_cases aM:i<w.heap.size
  ·exact ho i aM ht
  ·exact absurd (hR.wj i (by omega)) ht
theorem Ge.aa (h:Ge M w b av A B S) (hk:af aq w w'):Ge M w' b av A B S:=h.ax hk λi hi=>hi.elim
theorem Ge.blk (h:Ge M w b av A B S):M b:=by
 obtain ⟨o,hs,hR,ho⟩:=h.rp;exact ho b hR.self.lt (by rw [hR.cC]; unfold cA; decide)
theorem Ge.mono (h:Ge M w b av A B S) (hA:A<=A') (hB:B<=B'):Ge M w b av A' B' S:=⟨h.rp,h.iq,h.sz.mono hA hB,h.lt⟩
theorem Af.same (h:Ge M w b av A B S) (hk:af aq w w'):Af M w b av A B S M w':=⟨h.aa hk,λi hi=>Or.inl hi,hk.none⟩
theorem Af.aa {w1:World} (h:Af M w b av A B S M' w') (hk:af aq w' w1):Af M w b av A B S M' w1:=⟨h.ge.aa hk,h.gr,h.kp.ak hk⟩
theorem Af.agh {w0:World} (h:Af M w b av A B S M' w') (hk:af aq w0 w):Af M w0 b av A B S M' w':=
 ⟨h.ge,λi hi=>(h.gr i hi).imp id λq=>Nat.le_trans hk.size q,hk.none.trans h.kp λi _ q=>q⟩
theorem Af.mono (h:Af M w b av A B S M' w') (hA:A<=A') (hB:B<=B'):Af M w b av A' B' S M' w':=⟨h.ge.mono hA hB,h.gr,h.kp⟩
theorem Af.trans {w1:World} {M1:Nat->Prop} {A1 B1:Nat} {S1:ES} (h:Af M w b av A1 B1 S1 M1 w1) (h':Af M1 w1 b av A B S M' w'):Af M w b av A B S M' w':=by
 refine ⟨h'.ge,λi hi=>?_,h.kp.trans h'.kp λi hi q=>(h.gr i q).resolve_right λz=>by omega⟩;rcases h'.gr i hi with q | q
 ·exact h.gr i q
 ·exact Or.inr (Nat.le_trans h.kp.size q)
theorem Ym {o:Nat->Int} {hs:Hs} (hR:Rp dU w b o hs S) (ho:∀i,i<w.heap.size->cA (o i)->M i) {o':Nat->Int} {Au:Hs} (XG:Rp dU w' b o' Au S') (ha:Ag w o o') (hk:af (λi=>cA (o i)) w w') (hq:Iq av S') (hz:Sz A' B' S') :
  Af M w b av A' B' S' (λi=>i<w'.heap.size/\cA (o' i)) w':=by
 refine ⟨⟨⟨o',Au,XG,λi hi ht=>⟨hi,ht⟩⟩,hq,hz,λi hi=>hi.1⟩,λi hi=>?_,hk.mono λi hi ht=>ho i hi ht⟩;by_cases aM:i<w.heap.size
 ·refine Or.inl (ho i aM ?_);have h2:=hi.2;rw [ha i aM] at h2;exact h2
 ·exact Or.inr (by omega)
theorem Ft {o:Nat->Int} {hs:Hs} (hR:Rp dU w b o hs S) (ho:∀i,i<w.heap.size->cA (o i)->M i) (hN:Nx cA dU w b o hs S' w') (hq:Iq av S') (hz:Sz A' B' S'):∃M',Af M w b av A' B' S' M' w':=by
 obtain ⟨o',h',XG,ha,hk,_⟩:=hN;exact ⟨_,Ym hR ho XG ha hk hq hz⟩
theorem BI (h:Ge M w b av A B S):Calls Tryz.prog 73 #[Pt b] w λe w'=>e=.returned (.bool (spread S).2)/\∃M',Af M w b av A B (spread S).1 M' w':=by
 obtain ⟨o,hs,hR,ho⟩:=h.rp;exact (U_ hR h.iq.iz.toWfS).mono λe w' ⟨he,hN⟩=>⟨he,Ft hR ho hN h.iq.spread (h.sz.spread h.iq.iz)⟩
theorem MS (h:Ge M w b av A B S) (l:Int) (hl : -9223372036854775808<=l):Calls Tryz.prog 118 #[Pt b,I l] w λe w'=>e=.returned (I (iH S l))/\∃M',Af M w b av A B (dG S l) M' w':=by
 obtain ⟨o,hs,hR,ho⟩:=h.rp;exact (Vb hR l hl).mono λe w' ⟨he,hN⟩=>⟨he,Ft hR ho (hN.mono λt ht=>wo ht) (h.iq.dec l) (h.sz.dec l)⟩
theorem KC (h:Ge M w b av A B S):Calls Tryz.prog 75 #[Pt b] w λe w'=>e=.returned (.bool S.dead)/\w'=w:=by
 obtain ⟨o,hs,hR,ho⟩:=h.rp;exact abe hR
theorem IJ (h:Ge M w b av A B S) (hA:A<=cap):Calls Tryz.prog 147 #[Pt b] w λe w'=>∃p n c hs,e=.returned (.slice p n c)/\LL (λi=>w.heap.size<=i) w' p n c hs (aU S)/\af aq w w':=by
 obtain ⟨o,hs,hR,ho⟩:=h.rp;exact ML hR h.iq.iz.le (by have:=h.sz.g; unfold cap at hA; omega) λk d hd=>by have:=(h.iq.iz.hl k d hd).2.2.1; omega
theorem RN (h:Ge M w b av A B S):Calls Tryz.prog 77 #[Pt b] w λe w'=>(fJ S=none/\e=.returned (.tuple #[.slice none 0 0,.bool false])/\af aq w w')\/
   ∃m p c,fJ S=some m/\m.length=S.nv/\e=.returned (.tuple #[.slice p S.nv c,.bool true])/\bR w' 4 1 p S.nv c (m.map Value.bool)/\(∀i,ob p i->w.heap.size<=i)/\af aq w w':=by
 obtain ⟨o,hs,hR,ho⟩:=h.rp;exact VS hR
theorem MT (h:Ge M w b av A B S) (hA:A<=cap) (hB:B<=8796093022208) (i:Int):Calls Tryz.prog 148 #[Pt b,I i] w λe w'=>e=.returned (I (forget S i).1)/\∃M',Af M w b av A B (forget S i).2 M' w':=by
 obtain ⟨o,hs,hR,ho⟩:=h.rp;exact (VJ hR h.iq.iz.toWfS h.sz.rs (by have:=h.sz.w; omega) (by have:=h.sz.g; unfold cap at hA; omega) i).mono λe w' ⟨he,hN⟩=>⟨he,Ft hR ho hN (h.iq.forget i) (h.sz.forget i)⟩
theorem RO (h:Ge M w b av A B S) (hA:A<=cap) (hB:B<=8796093022208):Calls Tryz.prog 114 #[Pt b] w λe w'=>∃p c M',e=.returned (.tuple #[.slice p (dQ S).1.length c,I (dQ S).2.1,I (dQ S).2.2])/\bR w' 3 1 p (dQ S).1.length c ((dQ S).1.map I)/\(∀j,ob p j->w.heap.size<=j/\¬M' j)/\Af M w b av (A+1) (B+S.nv+1) (aN S) M' w':=by
 obtain ⟨o,hs,hR,ho⟩:=h.rp;have wA:∀{j:Nat} {P:Prop},ob none j->P:=λ{j P} hj=>absurd hj rQ;by_cases hc:S.aQ=true
 ·have qg:¬S.aQ=false:=by rw [hc]; decide
  have Ts:=h.iq.gE (by have:=h.sz.h; unfold cap at hA; omega) (by have:=h.sz.g; unfold cap at hA; omega);have Bb:=h.sz.aN h.iq;refine (abg hR h.iq.iz.toWfS hc (lok h.iq h.sz hA hB hc)).mono λe w' hh=>?_;rcases hh with ⟨g_,he,hN⟩ | ⟨g_,p,c,o',h',he,hO,hf,XG,ha,hk⟩
  ·have e1:dQ S=([], -1,0):=by unfold dQ; rw [if_neg qg,if_pos g_]
   have e2:aN S=tC S:=by unfold aN; rw [if_neg qg,if_pos g_]
   rw [e2] at Ts Bb;rw [e1,e2];obtain ⟨M',Oo⟩:=Ft hR ho hN Ts Bb;exact ⟨none,0,M',he,bR.nil _ _ _,λj hj=>wA hj,Oo⟩
  ·have e1:dQ S=(pQ S,(oP S).1,0):=by unfold dQ; rw [if_neg qg,if_neg g_]
   have e2:aN S=cU S (oP S).1 (pQ S):=by unfold aN; rw [if_neg qg,if_neg g_]
   rw [e2] at Ts Bb;rw [e1,e2];refine ⟨p,c,_,he,hO,λj hj=>⟨(hf j hj).1,λq=>q.2 (hf j hj).2⟩,Ym hR ho XG ha hk Ts Bb⟩
 ·have qg:S.aQ=false:=by cases h1:S.aQ<;>simp_all
  have e1:dQ S=([],0,3):=by unfold dQ; rw [if_pos qg]
  have e2:aN S=S:=by unfold aN; rw [if_pos qg]
  rw [e1,e2];refine (ze (some ⟨b,0,none⟩) w (λv w'=>v=.tuple #[.slice none 0 0,I 0,I 3]/\w'=w) ?_).mono λe w' ⟨v,he,hv,hw⟩=>⟨none,0,M,by rw [he,hv]; rfl,bR.nil _ _ _,λj hj=>wA hj,?_⟩
  ·unfold aam;exact ay (dX (x:=S.aQ) (by rw [ag]; exact hR.self.cell 10) (by rw [qg]; exact aX rfl ⟨rfl,rfl⟩))
  ·subst hw;exact (Af.same h (af.refl _ _)).mono (by omega) (by omega)
def al6 (w:World) (nv:Int) (av:List (List Int)) (q:Option Addr) (v:Int) (w':World):Prop:=
 (q=none/\v=1/\¬bD nv av/\af aq w w')\/
 (bD nv av/\v=0/\∃b M,q=some ⟨b,0,none⟩/\Ge M w' b av av.length (av.length*1048577) (jc nv.toNat av)/\(∀i,M i->w.heap.size<=i)/\af aq w w')
theorem abF {Bl:Nat->Prop} {nv:Int} {p:Option Addr} {n c:Nat} (hC:pP Bl w p n av) (hB:∀j,Bl j->j<w.heap.size) (hn:n<=1048576) (hl:∀es∈av,es.length<=1048576) :
  Calls Tryz.prog 36 #[.agg #[I nv,.slice p n c]] w λe w'=>∃q v,e=.returned (.tuple #[.pointer q,I v])/\al6 w nv av q v w':=by
 have Vo:av.length<=1048576:=by have:=hC.len; omega
 refine (alZ hC hB Vo hl).mono λe w' ⟨v,he,hh⟩=>?_;rcases hh with ⟨h1,rfl,h2⟩ | ⟨hf,b,o,h,rfl,hR,hk,ho⟩
 ·exact ⟨none,1,he,Or.inl ⟨rfl,rfl,h1,h2⟩⟩
 ·have dS:nv.toNat<=1048576:=by have:=hf.2.1; omega
  have hw:∀es∈av,∀x∈es,Wi nv.toNat x:=hf.2.2;exact ⟨_,0,he,Or.inr ⟨hf,rfl,b,λi=>i<w'.heap.size/\cA (o i),rfl,⟨⟨o,h,hR,λi hi ht=>⟨hi,ht⟩⟩,KA dS Vo hl hw,KB dS Vo hl hw,λi hi=>hi.1⟩,λi hi=>by
   apply Classical.byContradiction;intro aM;exact hi.2 (ho i (by omega)),hk⟩⟩
end
end bp
namespace T
open Go Vc
def V21 (bM:Int) (bN:qA) (bE:Nat) (bG:Nat) (a1:qA) (dW:Nat) (fU:Nat) (w:World) (R:qR):Prop:=
 cg w [qI bM,.slice bN bE bG] 24 λb2 w1=>
 qL w1 b2 0 λx4=>
 qC w1 b2 1 λx5 sS yU=>
 qb 45 [.agg #[qI x4,.slice x5 sS yU],.slice a1 dW fU] w1 λx6 w2=>
 gd (α:=(Int×(qA×Nat×Nat)×Unit)) x6 (λk8=>
  qL w2 b2 0 λx9=>
  qC w2 b2 1 λdR iS mO=>
  k8 (x9,(dR,iS,mO),()) w2) (0,(none,0,0),()) w2 λfh w3=>
 gd (α:=Bool) x6 (λfF=>
  qb 46 [.agg #[qI fh.1,.slice fh.2.1.1 fh.2.1.2.1 fh.2.1.2.2],.slice a1 dW fU] w3 λeV w4=>
  fF eV w4) false w3 λeP w5=>
 R (.bool (cond x6 eP false)) w5
theorem MU (bM bN bE bG a1 dW fU w R) (h:V21 bM bN bE bG a1 dW fU w R):qE 21 #[.agg #[qI bM,.slice bN bE bG],.slice a1 dW fU] w R:=qv (.s .l (.s .l .l)) Tryz.func21 (by kernel_rfl) (by kernel_rfl) h
theorem agi:br qQ 21:=by kernel_rfl
def V45 (bM:Int) (bN:qA) (bE:Nat) (bG:Nat) (a1:qA) (dW:Nat) (fU:Nat) (w:World) (R:qR):Prop:=
 cg w [qI bM,.slice bN bE bG] 24 λb2 w1=>
 qL w1 b2 0 λx4=>
 qC w1 b2 1 λx5 sS yU=>
 qb 33 [.agg #[qI x4,.slice x5 sS yU]] w1 λx6 w2=>
 gd (α:=Int) x6 (λk8=>
  qL w2 b2 0 λx9=>
  k8 x9 w2) 0 w2 λdR w3=>
 R (.bool (cond x6 ((dW:Int)==dR) false)) w3
theorem MV (bM bN bE bG a1 dW fU w R) (h:V45 bM bN bE bG a1 dW fU w R):qE 45 #[.agg #[qI bM,.slice bN bE bG],.slice a1 dW fU] w R:=qv (.s .l (.s .l .l)) Tryz.func45 (by kernel_rfl) (by kernel_rfl) h
theorem al7:br qQ 45:=by kernel_rfl
def V46 (bM:Int) (bN:qA) (bE:Nat) (bG:Nat) (a1:qA) (dW:Nat) (fU:Nat) (w:World) (R:qR):Prop:=
 cg w [qI bM,.slice bN bE bG] 24 λb2 w1=>
 qC w1 b2 1 λx4 lQ sy=>
 lp (σ:=Int×Unit) (λs7 w2 k6=>match s7 with
  | (v5,_)=>
  bC (decide (v5<(lQ:Int))) (
   cr x4 lQ v5 1 λxJ=>
   aZ w2 xJ λfh vU xK=>
   qb 87 [.slice fh vU xK,.slice a1 dW fU] w2 λeV w3=>
   bC (!eV) (
    R (.bool false) w3) (
    k6 ((IntKind.wrap .i64 (v5+1)),()) w3)) (
   R (.bool true) w2)) (0,()) w1
theorem MW (bM bN bE bG a1 dW fU w R) (h:V46 bM bN bE bG a1 dW fU w R):qE 46 #[.agg #[qI bM,.slice bN bE bG],.slice a1 dW fU] w R:=qv (.s .l (.s (.s .l (.b (.o [(10,.one (.int .i64))] (.s .l (.s (.c .l .l) (.s (.b (.s .l (.s .l (.c (.s .l .l) .l)))) .l)))))) (.s .l .l))) Tryz.func46 (by kernel_rfl) (by kernel_rfl) h
theorem al8:br qQ 46:=by kernel_rfl
def V87 (a0:qA) (bQ:Nat) (cF:Nat) (a1:qA) (dW:Nat) (fU:Nat) (w:World) (R:qR):Prop:=
 lp (σ:=Int×Unit) (λs5 w1 k4=>match s5 with
  | (v3,_)=>
  bC (decide (v3<(bQ:Int))) (
   cr a0 bQ v3 1 λp8=>
   aW .i64 w1 p8 λx9=>
   qi 94 [qI x9] w1 λfh w2=>
   cr a1 dW (IntKind.wrap .i64 (fh - 1)) 1 λrG=>
   Aj w2 rG λdV=>
   bC (dV==(decide (x9>0))) (
    R (.bool true) w2) (
    k4 ((IntKind.wrap .i64 (v3+1)),()) w2)) (
   R (.bool false) w1)) (0,()) w
theorem MX (a0 bQ cF a1 dW fU w R) (h:V87 a0 bQ cF a1 dW fU w R):qE 87 #[.slice a0 bQ cF,.slice a1 dW fU] w R:=qv (.s .l (.s (.s .l (.b (.o [(9,.one (.int .i64))] (.s .l (.s (.c .l .l) (.s (.b (.s .l (.s .l (.c (.s .l .l) .l)))) .l)))))) (.s .l .l))) Tryz.func87 (by kernel_rfl) (by kernel_rfl) h
theorem al9:br qQ 87:=by kernel_rfl
end T
namespace bp
open Go Vc T
open bt (cQ aL aA bg aO aB Sl sv mE)
open dw (fl bx)
theorem Gm.aa {w w':World} {p:Option Addr} {n:Nat} {bs:List Bool} (h:Gm w p n bs) (hk:af aq w w'):Gm w' p n bs:=
 ⟨h.len,λi x hx=>by obtain ⟨a,h1,h2,h3⟩:=h.cell i x hx; exact ⟨a,h1,hk.cell h2 λh=>h,Nat.lt_of_lt_of_le h3 hk.size⟩⟩
theorem Gm.ax {U:Nat->Prop} {w w':World} {p:Option Addr} {n:Nat} {bs:List Bool} (h:Gm w p n bs) (hk:af U w w') (hU:∀j,ob p j->¬U j):Gm w' p n bs:=
 ⟨h.len,λi x hx=>by obtain ⟨a,h1,h2,h3⟩:=h.cell i x hx; exact ⟨a,h1,hk.cell h2 (by rw [rO]; exact hU _ ⟨a,h1,rfl⟩),Nat.lt_of_lt_of_le h3 hk.size⟩⟩
theorem Gm.ix {w:World} {p:Option Addr} {n:Nat} {bs:List Bool} (h:Gm w p n bs) {i:Nat} (hi:i<n) {K:Addr->Prop} (hK:∀a x,bs[i]?=some x->w.cell? a=some (.bool x)->K a):cr p n (i:Int) 1 K:=by
 obtain ⟨x,hx⟩:=bg (show i<bs.length by have:=h.len; omega);obtain ⟨a,rfl,h2,_⟩:=h.cell i x hx;refine ⟨by omega,by omega,?_⟩;show K _;rw [Nat.mul_one,Int.toNat_natCast];exact hK _ x hx h2
theorem C0 {w:World} {p:Option Addr} {n c:Nat} {bs:List Bool} (h:bR w 4 1 p n c (bs.map Value.bool)):Gm w p n bs:=by
 have hl:bs.length=n:=by have:=h.len; simpa using this
 refine ⟨hl,λi x hx=>?_⟩;have hi:=(List.getElem?_eq_some_iff.1 hx).1;have h':=h;rcases h with ⟨rfl,rfl,_,_⟩ | ⟨b,cs,rfl,hB,_⟩
 ·omega
 ·refine ⟨⟨b,0,none⟩,rfl,?_,hB.lt⟩;rw [ag,Nat.zero_add,h'.cell _ (by omega),List.getElem?_map,hx]; rfl
def lt (m:List Bool) (x:Int):Prop:=m[x.natAbs - 1]?=some (decide (0<x))
def xH (m:List Bool) (c:List Int):Prop:=∃x∈c,lt m x
theorem abG {w:World} {p:Option Addr} {n c:Nat} {cs:List Int} (hC:cQ w p n cs) (hn:n<=17592186044416) {q:Option Addr} {k d:Nat} {m:List Bool} (hm:Gm w q k m) (hk:k<=1048576) (hw:∀x∈cs,Wi k x) :
  Calls Tryz.prog 87 #[.slice p n c,.slice q k d] w λe w'=>∃r:Bool,e=.returned (.bool r)/\(r=true↔xH m cs)/\af aq w w':=by
 refine (MX p n c q k d w (λv w'=>∃r:Bool,v=.bool r/\(r=true↔xH m cs)/\af aq w w') ?_).mono λe w' ⟨v,he,r,hv,hk⟩=>⟨r,by rw [he,hv],hk⟩
 unfold V87;have pM:=hC.len;refine bX (λs W=>∃i:Nat,s.1=i/\i<=n/\af aq w W/\¬xH m (cs.take i)) (λs _=>(n - s.1).toNat) ⟨0,rfl,Nat.zero_le _,af.refl _ _,λ⟨x,hx,_⟩=>by simp at hx⟩ ?_;rintro ⟨i',⟨⟩⟩ W ⟨i,rfl,hi,kW,hv⟩;dsimp only;refine aF (λaM=>?_) λbL=>?_
 ·have aM:i<n:=by simpa using aM
  rw [aA i (by omega)];refine (hC.aa kW).ix aM λa x hx ha=>ah ha ?_;obtain ⟨h0,h1,h2⟩:=hw x (List.mem_of_getElem? hx);refine az D_ (Trail.w_ x _ (by omega)) λe w2 ⟨he,hw2⟩=>⟨_,he,?_⟩
  subst hw2;have ev:(if 1<=x.natAbs/\x.natAbs<=1048576 then (x.natAbs:Int) else 0)=x.natAbs:=if_pos ⟨by omega,by omega⟩;rw [ev];have e2:IntKind.wrap .i64 ((x.natAbs:Int) - 1)=((x.natAbs - 1:Nat):Int):=by rw [IntKind.wrap_i64]; omega
  rw [e2];refine (hm.aa kW).ix (by omega) λa2 y hy IA=>dX IA ?_;have hd:decide (x>0)=decide (0<x):=rfl;rw [hd];refine aF (λhq=>⟨true,rfl,⟨λ_=>⟨x,List.mem_of_getElem? hx,?_⟩,λ_=>rfl⟩,kW⟩) λhq=>⟨⟨i+1,rfl,aM,kW,?_⟩,by omega⟩
  ·unfold lt; rw [hy]; congr 1; simpa using hq
  ·rw [aB hx];rintro ⟨z,hz,ht⟩;rcases List.mem_append.1 hz with hz | hz
   ·exact hv ⟨z,hz,ht⟩
   ·rw [List.mem_singleton.1 hz] at ht;unfold lt at ht;rw [hy] at ht; injection ht with ht;rw [ht] at hq; simp at hq
 ·have bL:i=n:=by simp at bL; omega
  subst bL;rw [<-pM,List.take_length] at hv;exact ⟨false,rfl,⟨λh=>(by cases h),λh=>absurd h hv⟩,kW⟩
theorem ama {Bl:Nat->Prop} {w:World} {nv:Int} {p:Option Addr} {n c:Nat} {av:List (List Int)} (hC:pP Bl w p n av) (hn:n<=17592186044416) (hl:∀es∈av,es.length<=17592186044416) {q:Option Addr} {k d:Nat} {m:List Bool} (hm:Gm w q k m) (hk:k<=1048576) (hw:∀es∈av,∀x∈es,Wi k x) :
  Calls Tryz.prog 46 #[.agg #[I nv,.slice p n c],.slice q k d] w λe w'=>∃r:Bool,e=.returned (.bool r)/\(r=true↔∀es∈av,xH m es)/\af aq w w':=by
 refine (MW nv p n c q k d w (λv w'=>∃r:Bool,v=.bool r/\(r=true↔∀es∈av,xH m es)/\af aq w w') ?_).mono λe w' ⟨v,he,r,hv,hk⟩=>⟨r,by rw [he,hv],hk⟩
 unfold V46;have pM:=hC.len;refine aD λb2 w1 rN bH k1=>?_;refine au (x:=p) (n:=n) (c:=c) (by rw [ag]; exact bH.cell 1) ?_;refine bX (λs W=>∃i:Nat,s.1=i/\i<=n/\af aq w W/\∀es∈av.take i,xH m es) (λs _=>(n - s.1).toNat) ⟨0,rfl,Nat.zero_le _,k1,λes hx=>by simp at hx⟩ ?_;rintro ⟨i',⟨⟩⟩ W ⟨i,rfl,hi,kW,hv⟩;dsimp only;refine aF (λaM=>?_) λbL=>?_
 ·have aM:i<n:=by simpa using aM
  rw [aA i (by omega)];obtain ⟨es,oH⟩:=bg (show i<av.length by omega);have pq:=List.mem_of_getElem? oH;refine (hC.aa kW).ix oH λa q2 mm c2 ha dm _ _=>au ha ?_;refine az al9 (abG dm (by rw [<-dm.len]; exact hl es pq) (hm.aa kW) hk (hw es pq)) λe w2 ⟨r,he,hr,k2⟩=>⟨r,he,?_⟩
  refine aF (λhq=>⟨false,rfl,⟨λh=>(by cases h),λh=>?_⟩,kW.ak k2⟩) λhq=>⟨⟨i+1,rfl,aM,kW.ak k2,λy hy=>?_⟩,by omega⟩
  ·have:=hr.2 (h es pq);rw [this] at hq; cases hq
  ·rw [cm oH] at hy;rcases List.mem_append.1 hy with hy | hy
   ·exact hv y hy
   ·rw [List.mem_singleton.1 hy];exact hr.1 (by simpa using hq)
 ·have bL:i=n:=by simp at bL; omega
  subst bL;rw [<-pM,List.take_length] at hv;exact ⟨true,rfl,⟨λ_=>hv,λ_=>rfl⟩,kW⟩
theorem agj {Bl:Nat->Prop} {w:World} {nv:Int} {p:Option Addr} {n c:Nat} {av:List (List Int)} (hC:pP Bl w p n av) (hn:n<=17592186044416) (hl:∀es∈av,es.length<=17592186044416) {q:Option Addr} {k d:Nat} :
  Calls Tryz.prog 45 #[.agg #[I nv,.slice p n c],.slice q k d] w λe w'=>∃r:Bool,e=.returned (.bool r)/\(r=true↔bD nv av/\(k:Int)=nv)/\af aq w w':=by
 refine (MV nv p n c q k d w (λv w'=>∃r:Bool,v=.bool r/\(r=true↔bD nv av/\(k:Int)=nv)/\af aq w w') ?_).mono λe w' ⟨v,he,r,hv,hk⟩=>⟨r,by rw [he,hv],hk⟩
 unfold V45;refine aD λb2 w1 rN bH k1=>?_;refine ah (x:=nv) (by rw [ag]; exact bH.cell 0) (au (x:=p) (n:=n) (c:=c) (by rw [ag]; exact bH.cell 1) ?_);refine az O9 (qX (hC.aa k1) hn hl) λe w2 ⟨r,he,hr,k2⟩=>⟨r,he,?_⟩
 cases r with
 | true=>
  refine aS rfl (ah (x:=nv) (by rw [ag]; exact (bH.aa k2).cell 0) ⟨_,rfl,?_,k1.ak k2⟩);show ((k:Int)==nv)=true↔_;rw [beq_iff_eq];exact ⟨λh=>⟨hr.1 rfl,h⟩,λh=>h.2⟩
 | false=>exact a_ rfl ⟨false,rfl,⟨λh=>(by cases h),λh=>absurd (hr.2 h.1) (by decide)⟩,k1.ak k2⟩
theorem agk {Bl:Nat->Prop} {w:World} {nv:Int} {p:Option Addr} {n c:Nat} {av:List (List Int)} (hC:pP Bl w p n av) (hn:n<=17592186044416) (hl:∀es∈av,es.length<=17592186044416) {q:Option Addr} {k d:Nat} {m:List Bool} (hm:Gm w q k m) :
  Calls Tryz.prog 21 #[.agg #[I nv,.slice p n c],.slice q k d] w λe w'=>∃r:Bool,e=.returned (.bool r)/\(r=true↔bD nv av/\(k:Int)=nv/\∀es∈av,xH m es)/\af aq w w':=by
 refine (MU nv p n c q k d w (λv w'=>∃r:Bool,v=.bool r/\(r=true↔bD nv av/\(k:Int)=nv/\∀es∈av,xH m es)/\af aq w w') ?_).mono λe w' ⟨v,he,r,hv,hk⟩=>⟨r,by rw [he,hv],hk⟩
 unfold V21;refine aD λb2 w1 rN bH k1=>?_;refine ah (x:=nv) (by rw [ag]; exact bH.cell 0) (au (x:=p) (n:=n) (c:=c) (by rw [ag]; exact bH.cell 1) ?_);refine az al7 (agj (hC.aa k1) hn hl) λe w2 ⟨r,he,hr,k2⟩=>⟨r,he,?_⟩
 cases r with
 | true=>
  obtain ⟨hf,Eg⟩:=hr.1 rfl;have hkk:k=nv.toNat:=by omega
  refine aS rfl (ah (x:=nv) (by rw [ag]; exact (bH.aa k2).cell 0) (au (x:=p) (n:=n) (c:=c) (by rw [ag]; exact (bH.aa k2).cell 1) (aS rfl ?_)));refine az al8 (ama ((hC.aa k1).aa k2) hn hl ((hm.aa k1).aa k2) (by have:=hf.2.1; omega) (by rw [hkk]; exact hf.2.2)) λe w3 ⟨r2,he2,Ko,k3⟩=>⟨r2,he2,r2,rfl,?_,(k1.ak k2).ak k3⟩
  rw [Ko];exact ⟨λh=>⟨hf,Eg,h⟩,λh=>h.2.2⟩
 | false=>exact a_ rfl (a_ rfl ⟨false,rfl,⟨λh=>(by cases h),λh=>absurd (hr.2 ⟨h.1,h.2.1⟩) (by decide)⟩,k1.ak k2⟩)
end bp
namespace bp
open Go Vc T
open Trail (E St bW upto bZ)
open bt (bg)
variable {av:List (List Int)} {S S':ES}
theorem C3 (h1:S'.aC=S.aC) (h2:∀k∈S.aC,c7 S' k=c7 S k):aU S'=aU S:=by
 unfold aU;rw [h1];exact List.map_congr_left h2
theorem V1 (hf:Fr S S') (k:Nat):c7 S' k=c7 S k:=by
 unfold c7;cases h:S'.H[k]? with
 | none=>
  have:=List.getElem?_eq_none_iff.1 h;rw [hf.hlen] at this;rw [List.getElem?_eq_none_iff.2 this]
 | some d'=>
  obtain ⟨d,g1,g2,_⟩:=hf.pW k d' h;rw [g1]; exact g2
theorem rf (hz:Iz S):aU (spread S).1=aU S:=by
 have hf:=hz.toInv.spread.2;exact C3 hf.aC λk _=>V1 hf k
theorem xC (l:Int):aU (dG S l)=aU S:=by unfold dG; split<;>rfl
theorem pE:aU (aR S).2=aU S:=by unfold aR; split<;>rfl
theorem tE (hw:WfS S) (back:Int) (s:List Int):aU (cU S back s)=aU S++[s]:=by
 obtain ⟨g1,_,_,g7⟩:=wE S s;obtain ⟨dn,n1,n2,_⟩:=zO S s;have e1:(cU S back s).aC=S.aC++[S.H.length]:=g7;have e2:∀k,c7 (cU S back s) k=c7 (aY S s) k:=λk=>rfl;unfold aU;rw [e1,List.map_append];congr 1
 ·refine List.map_congr_left λk hk=>?_;obtain ⟨d,hd⟩:=bg (hw.le k hk);rw [e2,rS (g1 k d hd),rS hd]
 ·show [c7 (cU S back s) S.H.length]=[s];rw [e2,rS n1,n2]
theorem oR (S:ES) (i:Int):((forget S i).1≠0/\(forget S i).2=S)\/∃(k:Nat) (d:Hd),S.rest=true/\0<=i/\i<S.aC.length/\S.aC[i.toNat]?=some k/\S.H[k]?=some d/\xz S d=false/\forget S i=(0,jb S i.toNat k d):=by
 unfold forget;split
 ·exact Or.inl ⟨(by decide:(3:Int)≠0),rfl⟩
 ·rename_i h1;split
  ·exact Or.inl ⟨(by decide:(2:Int)≠0),rfl⟩
  ·rename_i h2;split
   ·exact Or.inl ⟨(by decide:(2:Int)≠0),rfl⟩
   ·rename_i k hk;split
    ·exact Or.inl ⟨(by decide:(2:Int)≠0),rfl⟩
    ·rename_i d hd;split
     ·exact Or.inl ⟨(by decide:(160:Int)≠0),rfl⟩
     ·rename_i h3;refine Or.inr ⟨k,d,by cases h:S.rest<;>simp_all,by omega,by omega,hk,hd,by simpa using h3,rfl⟩
theorem BJ {α β:Type} (f:α->β):∀(l:List α) (i:Nat),(l.eraseIdx i).map f=(l.map f).eraseIdx i
 | [],i=>by simp
 | a :: l,0=>rfl
 | a :: l,i+1=>by
  rw [List.eraseIdx_cons_succ,List.map_cons,List.map_cons,List.eraseIdx_cons_succ,BJ f l i]
theorem vf {i k:Nat} {d:Hd} (hd:S.H[k]?=some d):aU (jb S i k d)=(aU S).eraseIdx i:=by
 have e:∀j,c7 (jb S i k d) j=c7 S j:=λj=>by
  show ((S.H.set k {d with gone:=true})[j]?.map λd=>d.ls).getD []=(S.H[j]?.map λd=>d.ls).getD [];rw [List.getElem?_set];by_cases f_:k=j
  ·subst f_;rw [if_pos rfl,if_pos (List.getElem?_eq_some_iff.1 hd).1,hd]; rfl
  ·rw [if_neg f_]
 have e3:c7 (jb S i k d)=c7 S:=funext e;unfold aU;rw [e3];show (S.aC.eraseIdx i).map _=_;exact BJ _ _ _
theorem zS (i:Int):aU (forget S i).2=if (forget S i).1=0 then (aU S).eraseIdx i.toNat else aU S:=by
 rcases oR S i with ⟨h1,h2⟩ | ⟨k,d,_,_,_,_,hd,_,e⟩
 ·rw [if_neg h1,h2]
 ·rw [e,if_pos rfl]; exact vf hd
theorem uf (i:Int):∀c∈aU (forget S i).2,c∈aU S:=λc hc=>by
 rw [zS] at hc;split at hc
 ·exact List.mem_of_mem_eraseIdx hc
 ·exact hc
theorem xD (hz:Iz S):(spread S).1.dead=S.dead:=hz.toInv.spread.2.dead
theorem Fu (l:Int):(dG S l).dead=S.dead:=by unfold dG; split<;>rfl
theorem vg:(aR S).2.dead=S.dead:=by unfold aR; split<;>rfl
theorem Fw (i:Int):(forget S i).2.dead=S.dead:=by
 unfold forget;split
 ·rfl
 ·split
  ·rfl
  ·split
   ·rfl
   ·split
    ·rfl
    ·split<;>rfl
theorem kD (h:Iq av S):(S.aQ=false/\aN S=S)\/(S.aQ=true/\(oP S).2=[]/\S.L=[]/\pQ S=[]/\aN S=tC S)\/(S.aQ=true/\(oP S).2≠[]/\Lf S (oP S).1 (pQ S)/\aN S=cU S (oP S).1 (pQ S)):=by
 by_cases hc:S.aQ=true
 ·have qg:¬S.aQ=false:=by rw [hc]; decide
  rcases kL h.iz h.lz hc with ⟨e,hL,_⟩ | ⟨e,_,_,hf⟩
  ·exact Or.inr (Or.inl ⟨hc,e,hL,by unfold pQ; rw [e]; rfl,by unfold aN; rw [if_neg qg,if_pos e]⟩)
  ·exact Or.inr (Or.inr ⟨hc,e,hf,by unfold aN; rw [if_neg qg,if_neg e]⟩)
 ·have qg:S.aQ=false:=by cases h1:S.aQ<;>simp_all
  exact Or.inl ⟨qg,by unfold aN; rw [if_pos qg]⟩
structure Yn (T:Int->Prop) (av:List (List Int)):Prop where
 no:∀x,T x->¬T (-x)
 tot:∀x,x≠0->T x\/T (-x)
 cl:∀c∈av,∃x∈c,T x
theorem RP (h:Iq av S) {T:Int->Prop} (hT:Yn T av) (hM:Mo T S) (hd:S.dead=false):Mo T (aN S)/\(aN S).dead=false:=by
 rcases kD h with ⟨_,e⟩ | ⟨hc,_,_,e2,e⟩ | ⟨hc,_,hf,e⟩
 ·rw [e]; exact ⟨hM,hd⟩
 ·have:=ue h hc hT.no hT.tot hT.cl hM (by rw [e2]; intro x hx; cases hx);rw [e2] at this;obtain ⟨x,hx,_⟩:=this;cases hx
 ·rw [e];refine ⟨λc kH=>?_,(oQ S (pQ S)).2.2.2.1.trans hd⟩;rw [tE h.iz.toWfS] at kH;rcases List.mem_append.1 kH with q | q
  ·exact hM c q
  ·rw [List.mem_singleton.1 q];exact ue h hc hT.no hT.tot hT.cl hM λx hx=>(hf.wi x hx).1
theorem MY (hs:kJ S) (hn:S.nv<=S.R.length) {v:Nat} (h1:1<=v) (h2:v<=S.nv):∃e∈S.R,e.lit.natAbs=v:=by
 apply Classical.byContradiction;intro dO;have hv:v∉S.R.map λe=>e.lit.natAbs:=λhm=>by
  obtain ⟨e,he,hl⟩:=List.mem_map.1 hm;exact dO ⟨e,he,hl⟩
 have nB:v∈(List.range S.nv).map (·+1):=List.mem_map.2 ⟨v - 1,List.mem_range.2 (by omega),by omega⟩;have:=rR (m:=((List.range S.nv).map (·+1)).erase v) hs.nodup λx hx=>by
  obtain ⟨e,he,hl⟩:=List.mem_map.1 hx;have hw:=gN (hs.own e he);obtain ⟨q0,q1,q2⟩:=hw;refine (List.mem_erase_of_ne (λ(e':x=v)=>hv (e' ▸ hx))).2 (List.mem_map.2 ⟨x - 1,List.mem_range.2 ?_,?_⟩)
  ·rw [<-hl]; omega
  ·rw [<-hl]; omega
 rw [List.length_erase_of_mem nB,List.length_map,List.length_map,List.length_range] at this;omega
theorem vh {m:List Bool} (hm:fJ S=some m):S.rest=true/\S.nv<=S.R.length/\m.length=S.nv/\∀i,i<S.nv->m[i]?=some (CV S i):=by
 rw [nS] at hm;split at hm
 ·cases hm
 ·rename_i h;rw [not_or] at h;injection hm with hm;subst hm;refine ⟨by cases h1:S.rest<;>simp_all,by omega,by simp,λi hi=>?_⟩;rw [List.getElem?_map,List.getElem?_range hi]; rfl
theorem rT (hs:kJ S) {m:List Bool} (hm:fJ S=some m) {e:E} (he:e∈S.R):lt m e.lit:=by
 obtain ⟨_,_,_,h4⟩:=vh hm;obtain ⟨q0,q1,q2⟩:=gN (hs.own e he);unfold lt;rw [h4 _ (by omega)];congr 1;obtain ⟨v1,v2⟩:=zF hs he;unfold CV;by_cases hp:0<e.lit
 ·have:((e.lit.natAbs - 1:Nat):Int)+1=e.lit:=by omega
  rw [this,v1]; simp [hp]
 ·have:((e.lit.natAbs - 1:Nat):Int)+1=-e.lit:=by omega
  rw [this,v2]; simp [hp]
theorem MZ (h:Iq av S) {m:List Bool} (hm:fJ S=some m):∀c∈Fo av S,xH m c:=by
 intro c hc;obtain ⟨h1,h2,_,h4⟩:=vh hm;have Eg:∀x∈c,∃e∈S.R,e.lit=x\/e.lit=-x:=λx hx=>by
  obtain ⟨q0,q1,q2⟩:=abD h hc x hx;obtain ⟨e,he,hl⟩:=MY h.iz.st h2 (v:=x.natAbs) (by omega) (by omega);exact ⟨e,he,by omega⟩
 rcases Fs h h1 (d:=S.L.length) (by omega) c hc with ⟨x,hx,Yc⟩ | ⟨x,hx,hxt⟩ | ⟨x,hx,_,_,_,Yc,_⟩
 ·obtain ⟨e,he,hl | hl⟩:=Eg x hx
  ·exact ⟨x,hx,hl ▸ rT h.iz.st hm he⟩
  ·exact ⟨-x,Yc,hl ▸ rT h.iz.st hm he⟩
 ·obtain ⟨e,he,hl,_⟩:=lJ.1 hxt;exact ⟨x,hx,hl ▸ rT h.iz.st hm he⟩
 ·obtain ⟨e,he,hl | hl⟩:=Eg x hx
  ·exact ⟨x,hx,hl ▸ rT h.iz.st hm he⟩
  ·exact absurd (lJ.2 ⟨e,he,hl,(h.iz.st.lvl e he).2⟩) Yc
end bp
namespace bp
open Go Vc T
open Trail (E St bW upto bZ)
open bt (bg)
def vm:Nat->List E->Nat
 | _,[]=>0
 | n,e :: R=>(if 0<=e.rs then 2 ^ (n - 1) else 0)+vm (n - 1) R
theorem zT:∀(n:Nat) (A B:List E),vm n (A++B)=vm n A+vm (n - A.length) B
 | n,[],B=>by simp [vm]
 | n,e :: A,B=>by
  rw [List.cons_append,vm,vm,zT (n - 1) A B,List.length_cons];have:n - 1 - A.length=n - (A.length+1):=by omega
  rw [this]; omega
theorem RQ:∀(n:Nat) (R:List E),R.length<=n->vm n R<2 ^ n
 | n,[],_=>by simp [vm]; exact Nat.two_pow_pos n
 | n,e :: R,h=>by
  rw [List.length_cons] at h;have hn:n=(n - 1)+1:=by omega
  have:=RQ (n - 1) R (by omega);have e2:2 ^ n=2 ^ (n - 1)+2 ^ (n - 1):=by
   conv=>lhs; rw [hn,Nat.pow_succ]
   omega
  rw [vm,e2];split<;>omega
def Du (S:ES):Nat:=vm S.nv S.R
theorem abH {S:ES} (h:kJ S):Du S<2 ^ S.nv:=RQ _ _ h.len
theorem V7 (n:Nat) (A X:List E):vm n A<=vm n (A++X):=by rw [zT]; omega
theorem M0 {S:ES} (hz:Iz S):Du S<=Du (spread S).1:=by
 have hf:=hz.toInv.spread.2;obtain ⟨X,hX⟩:=hf.R;unfold Du;rw [show (spread S).1.nv=S.nv from hf.nv,hX];exact V7 _ _ _
theorem abI {S:ES} (l:Int):Du (dG S l)=Du S:=by
 unfold dG Du;split
 ·show vm S.nv (S.R++[_])=_;rw [zT];simp [vm]
 ·rfl
theorem M3 {n:Nat} {R:List E} {L:List Int} (h:St n R L):(L=[]\/∃e∈R,e.lv=L.length)/\∀(i:Nat) (e:E),R[i]?=some e->0<=e.rs->0<e.lv->∃(j:Nat) (f:E),j<i/\R[j]?=some f/\f.lv=e.lv:=by
 induction h with
 | nil=>exact ⟨Or.inl rfl,λi e he=>by simp at he⟩
 | @mA R L l r hs _ _ _ ih=>
  refine ⟨ih.1.imp id λ⟨e,he,hl⟩=>⟨e,List.mem_append_left _ he,hl⟩,λi e he h0 hl=>?_⟩;rcases eB he with ⟨hi,h1⟩ | ⟨hi,rfl⟩
  ·obtain ⟨j,f,a,b,c⟩:=ih.2 i e h1 h0 hl;exact ⟨j,f,a,by rw [List.getElem?_append_left (by omega)]; exact b,c⟩
  ·rcases ih.1 with e0 | ⟨f,hf,kI⟩
   ·rw [e0] at hl; exact absurd (show (0:Int)<((0:Nat):Int) from hl) (by decide)
   ·obtain ⟨j,hj⟩:=List.mem_iff_getElem?.1 hf;have Uc:=(List.getElem?_eq_some_iff.1 hj).1;exact ⟨j,f,by omega,by rw [List.getElem?_append_left Uc]; exact hj,kI⟩
 | @decide R L l hs _ _ ih=>
  refine ⟨Or.inr ⟨_,List.mem_append_right _ (List.mem_singleton.2 rfl),by rw [List.length_append]; rfl⟩,λi e he h0 hl=>?_⟩;rcases eB he with ⟨hi,h1⟩ | ⟨hi,rfl⟩
  ·obtain ⟨j,f,a,b,c⟩:=ih.2 i e h1 h0 hl;exact ⟨j,f,a,by rw [List.getElem?_append_left (by omega)]; exact b,c⟩
  ·exact absurd h0 (show ¬(0:Int)<= -1 by decide)
theorem RR {S:ES} (h:Iz S) {back:Int} {s:List Int} (hf:Lf S back s):Du S+1<=Du (cU S back s):=by
 obtain ⟨_,_,e5,e6,e7⟩:=oJ S s;have hb:=hf.b0;have uk:=hf.bl;have Kw:=jD h.st hb (Int.le_of_lt uk);have hR:(cU S back s).R=upto back S.R++[(⟨s.headD 0,((((aY S s).L.take back.toNat).length:Nat):Int),xy S⟩:E)]:=by
  show upto back (aY S s).R++[_]=_;rw [e5]; rfl
 have dS:(cU S back s).nv=S.nv:=e7;have yx:0<=xy S:=by unfold xy; omega
 -- U8 is cut amb with a decision
 obtain ⟨e,he,_,hev⟩:=hf.hd;have aM:(upto back S.R).length<S.R.length:=by
  rcases Nat.lt_or_ge (upto back S.R).length S.R.length with q | q
  ·exact q
  ·exfalso;have zH:(upto back S.R).length=S.R.length:=by rw [Kw.1,List.length_take] at q ⊢; omega
   have:upto back S.R=S.R:=by
    rw [Kw.1] at zH ⊢;rw [List.length_take] at zH;exact List.take_of_length_le (by omega)
   have hm:=he;rw [<-this] at hm;have:=(c_.1 hm).2;omega
 obtain ⟨f,hfg⟩:=bg aM;have Cq:S.R=upto back S.R++f :: S.R.drop ((upto back S.R).length+1):=by
  have ht:S.R.take (upto back S.R).length=upto back S.R:=by
   conv=>rhs; rw [Kw.1]
   congr 1;have hh:=congrArg List.length Kw.1;rw [List.length_take] at hh;have:=Kw.2;omega
  conv=>lhs; rw [<-List.take_append_drop (upto back S.R).length S.R,ht]
  congr 1;rw [List.drop_eq_getElem_cons aM];congr 1;exact (List.getElem?_eq_some_iff.1 hfg).2
 have aoX:back<f.lv:=by
  apply Classical.byContradiction;intro hn;have agl:∀g∈S.R.take ((upto back S.R).length+1),g.lv<=back:=λg hg=>by
   rw [List.take_add_one,hfg,List.mem_append] at hg;rcases hg with hg | hg
   ·have ht:S.R.take (upto back S.R).length=upto back S.R:=by
     conv=>rhs; rw [Kw.1]
     congr 1;have hh:=congrArg List.length Kw.1;rw [List.length_take] at hh;have:=Kw.2;omega
    rw [ht] at hg;exact (c_.1 hg).2
   ·have:g=f:=by simpa using hg
    rw [this]; omega
  have iX:(S.R.take ((upto back S.R).length+1)).length<=(upto back S.R).length:=by
   have:(S.R.take ((upto back S.R).length+1))=(S.R.take ((upto back S.R).length+1)).filter (λe=>decide (e.lv<=back)):=by
    symm; rw [List.filter_eq_self]; intro g hg; simpa using agl g hg
   rw [this];exact ((List.take_sublist _ _).filter _).length_le
  rw [List.length_take] at iX;omega
 have aoY:f.rs<0:=by
  apply Classical.byContradiction;intro hn;obtain ⟨j,g,h1,h2,h3⟩:=(M3 h.st).2 _ f hfg (by omega) (by omega);have hgm:g∈upto back S.R:=by
   have:(upto back S.R)[j]?=some g:=by
    have S6:=h2;rw [Cq,List.getElem?_append_left h1] at S6;exact S6
   exact List.mem_of_getElem? this
  have:=(c_.1 hgm).2;omega
 unfold Du;rw [dS,hR]
 conv=>lhs; rw [Cq]
 rw [zT,zT];have hlen:=h.st.len;have hl3:(S.R.drop ((upto back S.R).length+1)).length<=S.nv - (upto back S.R).length - 1:=by rw [List.length_drop]; omega
 have:=RQ (S.nv - (upto back S.R).length - 1) _ hl3;simp only [vm,if_pos yx,if_neg (show ¬(0:Int)<=f.rs by omega)];omega
end bp
namespace T
open Go Vc
def V67 (a0:Int) (a1:Nat) (w:World) (R:qR):Prop:=
 bC (cond (cond (decide (a0<0)) true (decide (a0>1048576))) true (!(cond ((FloatKind.format .f64).order a1 4602678819172646912==some .gt || (FloatKind.format .f64).order a1 4602678819172646912==some .eq) ((FloatKind.format .f64).order a1 4607182418800017408==some .lt || (FloatKind.format .f64).order a1 4607182418800017408==some .eq) false))) (
  R (.tuple #[.pointer none,qI 2]) w) (
  ∃(x5:qA) (sS yU:Nat),∃w1:World,(Instr.makeSlice 165 (qI a0) (qI a0)).run Tryz.prog w=.ok (.slice x5 sS yU) w1/\
  cg w1 [.slice x5 sS yU,.float .f64 4607182418800017408,.float .f64 a1,.slice none 0 0,.slice none 0 0,.nilFunc] 169 λb6 w2=>
  (
   ∃(x7:qA) (wZ Bj:Nat),∃w3:World,(Instr.makeSlice 59 (qI a0) (qI a0)).run Tryz.prog w2.drew=.ok (.slice x7 wZ Bj) w3/\
   ∃(x8:qA) (Ca Cb:Nat),∃w4:World,(Instr.makeSlice 59 (qI a0) (qI a0)).run Tryz.prog w3=.ok (.slice x8 Ca Cb) w4/\
   st w4 (((⟨b6,0,none⟩:Addr).add 3).add 0) (.slice x7 wZ Bj) λw5=>
   st w5 (((⟨b6,0,none⟩:Addr).add 3).add 1) (.slice x8 Ca Cb) λw6=>
   st w6 (((⟨b6,0,none⟩:Addr).add 3).add 2) (.func (.func 100) #[qP b6] #[]) λw7=>
   lp (σ:=Int×Unit) (λN8 w8 gF=>match N8 with
    | (v10,_)=>
    bC (decide (v10<a0)) (
     qu 101 [.pointer (some ((⟨b6,0,none⟩:Addr).add 3)),qI v10,qI (IntKind.wrap .i64 (v10+1))] w8 λw9=>
     gF ((IntKind.wrap .i64 (v10+1)),()) w9) (
     R (.tuple #[qP b6,qI 0]) w8)) (0,()) w7)/\
  (
   ∃(ic:qA) (vV yV:Nat),∃cK:World,(Instr.makeSlice 59 (qI a0) (qI a0)).run Tryz.prog w2.drew=.ok (.slice ic vV yV) cK/\
   ∃(eX:qA) (gA pN:Nat),∃dB:World,(Instr.makeSlice 59 (qI a0) (qI a0)).run Tryz.prog cK=.ok (.slice eX gA pN) dB/\
   st dB (((⟨b6,0,none⟩:Addr).add 3).add 0) (.slice eX gA pN) λdF=>
   st dF (((⟨b6,0,none⟩:Addr).add 3).add 1) (.slice ic vV yV) λeA=>
   st eA (((⟨b6,0,none⟩:Addr).add 3).add 2) (.func (.func 100) #[qP b6] #[]) λeG=>
   lp (σ:=Int×Unit) (λs24 gT uI=>match s24 with
    | (v22,_)=>
    bC (decide (v22<a0)) (
     qu 101 [.pointer (some ((⟨b6,0,none⟩:Addr).add 3)),qI v22,qI (IntKind.wrap .i64 (v22+1))] gT λeM=>
     uI ((IntKind.wrap .i64 (v22+1)),()) eM) (
     R (.tuple #[qP b6,qI 0]) gT)) (0,()) eG))
theorem M4 (a0 a1 w R) (h:V67 a0 a1 w R):qE 67 #[qI a0,.float .f64 a1] w R:=qv (.s .l (.s (.s .l (.c (.s .l .l) .l)) (.s .l (.s (.d [0,0,2,0,8,0,32,126,255,511,1023]) (.s (.s .l (.b (.o [(39,.one (.int .i64))] (.s .l (.s (.c .l .l) (.s (.b (.s .l .l)) .l)))))) (.s .l .l)))))) Tryz.func67 (by kernel_rfl) (by kernel_rfl) h
theorem amc:br qQ 67:=by kernel_rfl
def agm (a0:qA) (a1:Int) (a2:Int) (w:World) (R:qR):Prop:=
 nn a0 λp2=>
 aZ w.drew (p2.add 0) λx3 sV F5=>
 cr x3 sV (IntKind.wrap .i64 (a1 - 1)) 1 λp4=>
 wR .f64 w.drew p4 λx5=>
 nn a0 λp6=>
 aZ w.drew (p6.add 0) λx7 wZ Bj=>
 cr x7 wZ (IntKind.wrap .i64 (a2 - 1)) 1 λp8=>
 wR .f64 w.drew p8 λx9=>
 R (.bool (cond ((FloatKind.format .f64).order x5 x9==some .gt) true (cond ((FloatKind.format .f64).order x5 x9==some .eq) (decide (a1<a2)) false))) w.drew
theorem IK (a0 a1 a2 w R) (h:agm a0 a1 a2 w R):qE 100 #[.pointer a0,qI a1,qI a2] w R:=qv (.s .l (.s (.d [0,1,3,7,0,16,63,127,0,256,768,1792,0,4096,16128,32512,255,131071]) (.s .l .l))) Tryz.func100 (by kernel_rfl) (by kernel_rfl) h
theorem RS:br qQ 100:=by kernel_rfl
def agn (a0:qA) (a1:Int) (w:World) (R:qR):Prop:=
 gd (α:=Addr) (decide (a1 >= 1)) (λk3=>
  nn a0 λp4=>
  k3 p4 w) ⟨0,0,none⟩ w λx5 w1=>
 gd (α:=(qA×Nat×Nat)) (decide (a1 >= 1)) (λk6=>
  aZ w1 (x5.add 0) λx7 wZ Bj=>
  k6 (x7,wZ,Bj) w1) (none,0,0) w1 λx8 w2=>
 R (.bool (cond (decide (a1 >= 1)) (decide (a1<=(x8.2.1:Int))) false)) w2
theorem IL (a0 a1 w R) (h:agn a0 a1 w R):qE 129 #[.pointer a0,qI a1] w R:=qv (.s .l (.s .l .l)) Tryz.func129 (by kernel_rfl) (by kernel_rfl) h
theorem Yo:br qQ 129:=by kernel_rfl
def ago (a0:qA) (w:World) (R:qR):Prop:=
 nn a0 λp2=>
 aZ w (p2.add 0) λx3 sV F5=>
 lp (σ:=Int×Unit) (λs6 w1 k5=>match s6 with
  | (v4,_)=>
  bC (decide (v4<(sV:Int))) (
   nn a0 λp9=>
   aZ w1.drew (p9.add 0) λdR iS mO=>
   nn a0 λrF=>
   aZ w1.drew (rF.add 0) λdJ mP qw=>
   cr dJ mP v4 1 λrG=>
   wR .f64 w1.drew rG λdV=>
   ∃eP:Nat,(FloatKind.format .f64).mul dV 3110860544497550640=some eP/\
   cr dR iS v4 1 λCc=>
   st w1.drew (Cc.add 0) (.float .f64 eP) λw2=>
   k5 ((IntKind.wrap .i64 (v4+1)),()) w2) (
   nn a0 λPr=>
   wR .f64 w1 (Pr.add 1) λeX=>
   ∃j5:Nat,(FloatKind.format .f64).mul eX 3110860544497550640=some j5/\
   nn a0 λTS=>
   st w1 ((TS.add 1).add 0) (.float .f64 j5) λw3=>
   nn a0 λTT=>
   qu 168 [.pointer (some (TT.add 3))] w3 λw4=>
   R (.tuple #[]) w4)) (0,()) w
theorem IM (a0 w R) (h:ago a0 w R):qE 132 #[.pointer a0] w R:=qv (.s (.s .l (.b (.o [(8,.one (.int .i64))] (.s .l (.s (.c .l .l) (.s (.b (.s .l (.d [0,1,3,7,0,0,32,96,224,0,992,2016,4064,8191,16383]))) .l)))))) (.s .l .l)) Tryz.func132 (by kernel_rfl) (by kernel_rfl) h
theorem Yp:br qQ 132:=by kernel_rfl
def agp (a0:qA) (a1:Int) (w:World) (R:qR):Prop:=
 qb 129 [.pointer a0,qI a1] w λx3 w1=>
 bC (!x3) (
  R (qI 2) w1) (
  nn a0 λp6=>
  aZ w1.drew (p6.add 0) λx7 wZ Bj=>
  cr x7 wZ (IntKind.wrap .i64 (a1 - 1)) 1 λp8=>
  wR .f64 w1.drew p8 λx9=>
  nn a0 λxJ=>
  wR .f64 w1.drew (xJ.add 1) λfh=>
  ∃dJ:Nat,(FloatKind.format .f64).add x9 fh=some dJ/\
  cr x7 wZ (IntKind.wrap .i64 (a1 - 1)) 1 λrG=>
  st w1.drew (rG.add 0) (.float .f64 dJ) λw2=>
  jn (σ:=Unit) (λlq=>
   nn a0 λDi=>
   qb 130 [.pointer (some (Di.add 3)),qI a1] w2 λgh w4=>
   bC gh (
    nn a0 λJz=>
    nn a0 λTU=>
    aZ w4.drew ((TU.add 3).add 1) λiU xL Ce=>
    cr iU xL (IntKind.wrap .i64 (a1 - 1)) 1 λLN=>
    aW .i64 w4.drew LN λiV=>
    qu 131 [.pointer (some (Jz.add 3)),qI iV] w4.drew λw5=>
    lq (()) w5) (
    lq (()) w4)) λs15 w3=>match s15 with
  | (_)=>
  jn (σ:=Unit) (λuW=>
   nn a0 λZs=>
   aZ w3 (Zs.add 0) λm_ Cg G9=>
   cr m_ Cg (IntKind.wrap .i64 (a1 - 1)) 1 λLy=>
   wR .f64 w3 Ly λig=>
   bC ((FloatKind.format .f64).order ig 6103021453049119613==some .gt) (
    qu 132 [.pointer a0] w3 λw7=>
    uW (()) w7) (
    uW (()) w3)) λs27 w6=>match s27 with
  | (_)=>
  R (qI 0) w6)
theorem IN (a0 a1 w R) (h:agp a0 a1 w R):qE 107 #[.pointer a0,qI a1] w R:=qv (.s .l (.s (.s .l (.c (.s .l .l) .l)) (.s (.d [0,1,3,7,0,16,63,127,0,256,768,1792,4095,8191,16383]) (.s (.j [] (.s .l (.c (.d [0,1,3,0,8,24,56,120,0,256,1016,2040,4095]) .l))) (.s (.j [] (.s .l (.c .l .l))) (.s .l .l)))))) Tryz.func107 (by kernel_rfl) (by kernel_rfl) h
theorem agq:br qQ 107:=by kernel_rfl
def agr (a0:qA) (w:World) (R:qR):Prop:=
 nn a0 λp1=>
 wR .f64 w.drew (p1.add 1) λx2=>
 nn a0 λp3=>
 wR .f64 w.drew (p3.add 2) λx4=>
 ∃x5:Nat,(FloatKind.format .f64).div x2 x4=some x5/\
 nn a0 λp6=>
 st w.drew ((p6.add 1).add 0) (.float .f64 x5) λw1=>
 nn a0 λp8=>
 wR .f64 w1 (p8.add 1) λx9=>
 bC ((FloatKind.format .f64).order x9 6103021453049119613==some .gt) (
  qu 132 [.pointer a0] w1 λw2=>
  R (.tuple #[]) w2) (
  R (.tuple #[]) w1)
theorem IQ (a0 w R) (h:agr a0 w R):qE 108 #[.pointer a0] w R:=qv (.s (.d [0,1,3,7,0,16,48,112,255,511,1023,2047]) (.s .l (.c .l .l))) Tryz.func108 (by kernel_rfl) (by kernel_rfl) h
theorem ags:br qQ 108:=by kernel_rfl
def agt (a0:qA) (w:World) (R:qR):Prop:=
 nn a0 λp3=>
 aZ w ((p3.add 3).add 0) λx4 lQ sy=>
 bC ((lQ:Int)==0) (
  R (.tuple #[qI 0,.bool false]) w) (
  nn a0 λp7=>
  qi 128 [.pointer (some (p7.add 3))] w λx8 w1=>
  R (.tuple #[qI x8,.bool true]) w1)
theorem IS (a0 w R) (h:agt a0 w R):qE 106 #[.pointer a0] w R:=qv (.s .l (.s (.s .l (.c (.s .l .l) .l)) (.s .l .l))) Tryz.func106 (by kernel_rfl) (by kernel_rfl) h
theorem agu:br qQ 106:=by kernel_rfl
def agv (a0:qA) (a1:Int) (w:World) (R:qR):Prop:=
 qb 129 [.pointer a0,qI a1] w λx3 w1=>
 bC (!x3) (
  R (qI 2) w1) (
  nn a0 λp7=>
  qb 130 [.pointer (some (p7.add 3)),qI a1] w1 λx8 w2=>
  bC x8 (
   R (qI 50) w2) (
   nn a0 λsU=>
   qu 133 [.pointer (some (sU.add 3)),qI a1] w2 λw3=>
   R (qI 0) w3))
theorem IT (a0 a1 w R) (h:agv a0 a1 w R):qE 109 #[.pointer a0,qI a1] w R:=qv (.s .l (.s (.b (.s .l (.c (.s .l .l) (.s .l (.c (.s .l .l) .l))))) (.s .l (.s .l .l)))) Tryz.func109 (by kernel_rfl) (by kernel_rfl) h
theorem agw:br qQ 109:=by kernel_rfl
def agx (a0:qA) (a1:Int) (a2:Int) (w:World) (R:qR):Prop:=
 nn a0 λp2=>
 aZ w (p2.add 0) λx3 sV F5=>
 cr x3 sV a1 1 λp4=>
 st w (p4.add 0) (qI a2) λw1=>
 nn a0 λp6=>
 aZ w1 (p6.add 1) λx7 wZ Bj=>
 cr x7 wZ (IntKind.wrap .i64 (a2 - 1)) 1 λp8=>
 st w1 (p8.add 0) (qI a1) λw2=>
 R (.tuple #[]) w2
theorem IU (a0 a1 a2 w R) (h:agx a0 a1 a2 w R):qE 101 #[.pointer a0,qI a1,qI a2] w R:=qv (.s .l .l) Tryz.func101 (by kernel_rfl) (by kernel_rfl) h
theorem BK:br qQ 101:=by kernel_rfl
def agy (a0:qA) (a1:Int) (w:World) (R:qR):Prop:=
 nn a0 λp3=>
 aZ w (p3.add 1) λx4 lQ sy=>
 cr x4 lQ (IntKind.wrap .i64 (a1 - 1)) 1 λp5=>
 aW .i64 w p5 λx6=>
 R (.bool (decide (x6 >= 0))) w
theorem IV (a0 a1 w R) (h:agy a0 a1 w R):qE 130 #[.pointer a0,qI a1] w R:=qv (.s .l (.s .l .l)) Tryz.func130 (by kernel_rfl) (by kernel_rfl) h
theorem Yq:br qQ 130:=by kernel_rfl
def agz (a0:qA) (a1:Int) (w:World) (R:qR):Prop:=
 nn a0 λp2=>
 aZ w (p2.add 0) λx3 sV F5=>
 cr x3 sV a1 1 λp4=>
 aW .i64 w p4 λx5=>
 jn (σ:=Int×Unit) (λk7=>
  lp (σ:=Int×Unit) (λs11 w2 fD=>match s11 with
   | (v9,_)=>
   bC (decide (v9>0)) (
    nn a0 λCd=>
    nZ w2.drew (Cd.add 2) λeP=>
    nn a0 λCc=>
    aZ w2.drew (Cc.add 0) λfL lY pJ=>
    cr fL lY (IntKind.wrap .i64 (Int.tdiv (IntKind.wrap .i64 (v9 - 1)) 2)) 1 λN6=>
    aW .i64 w2.drew N6 λic=>
    wS Tryz.prog (eP) [qI x5,qI ic] w2.drew λe21 w3=>∃eX:Bool,e21=Ending.returned (.bool eX)/\
    bC (!eX) (
     k7 (v9,()) w3) (
     nn a0 λLN=>
     aZ w3 (LN.add 0) λiV xP zf=>
     cr iV xP (IntKind.wrap .i64 (Int.tdiv (IntKind.wrap .i64 (v9 - 1)) 2)) 1 λJC=>
     aW .i64 w3 JC λjj=>
     qu 101 [.pointer a0,qI v9,qI jj] w3 λw4=>
     fD ((IntKind.wrap .i64 (Int.tdiv (IntKind.wrap .i64 (v9 - 1)) 2)),()) w4)) (
    k7 (v9,()) w2)) (a1,()) w) λs8 w1=>match s8 with
 | (v6,_)=>
 qu 101 [.pointer a0,qI v6,qI x5] w1 λw5=>
 R (.tuple #[]) w5
theorem IW (a0 a1 w R) (h:agz a0 a1 w R):qE 131 #[.pointer a0,qI a1] w R:=qv (.s .l (.s (.j [(1,.one (.int .i64))] (.b (.o [(1,.one (.int .i64))] (.s (.s .l (.c .l .l)) (.b (.s .l (.s (.s (.d [0,1,3,7,0,0,32,96,224,0,992,2016,4095,8191]) (.c .l .l)) (.s .l .l)))))))) .l)) Tryz.func131 (by kernel_rfl) (by kernel_rfl) h
theorem Yr:br qQ 131:=by kernel_rfl
def agA (a0:qA) (a1:Int) (w:World) (R:qR):Prop:=
 nn a0 λp2=>
 aZ w (p2.add 0) λx3 sV F5=>
 cr x3 sV a1 1 λp4=>
 aW .i64 w p4 λx5=>
 jn (σ:=Int×Unit) (λk7=>
  lp (σ:=Int×Unit) (λs11 w2 fD=>match s11 with
   | (v9,_)=>
   nn a0 λCd=>
   aZ w2 (Cd.add 0) λeP nK uH=>
   bC (decide ((IntKind.wrap .i64 ((IntKind.wrap .i64 (2*v9))+1)) >= (nK:Int))) (
    k7 (v9,()) w2) (
    jn (σ:=Int×Unit) (λkz=>
     nn a0 λPr=>
     aZ w2.drew (Pr.add 0) λeX gA pN=>
     gd (α:=Addr) (decide ((IntKind.wrap .i64 ((IntKind.wrap .i64 ((IntKind.wrap .i64 (2*v9))+1))+1))<(gA:Int))) (λF6=>
      nn a0 λTS=>
      F6 TS w2.drew) ⟨0,0,none⟩ w2.drew λlR _=>
     gd (α:=Value) (decide ((IntKind.wrap .i64 ((IntKind.wrap .i64 ((IntKind.wrap .i64 (2*v9))+1))+1))<(gA:Int))) (λoA=>
      nZ w2.drew (lR.add 2) λiT=>
      oA iT w2.drew) undef w2.drew λjj _=>
     gd (α:=Addr) (decide ((IntKind.wrap .i64 ((IntKind.wrap .i64 ((IntKind.wrap .i64 (2*v9))+1))+1))<(gA:Int))) (λQJ=>
      nn a0 λHi=>
      QJ Hi w2.drew) ⟨0,0,none⟩ w2.drew λjo _=>
     gd (α:=(qA×Nat×Nat)) (decide ((IntKind.wrap .i64 ((IntKind.wrap .i64 ((IntKind.wrap .i64 (2*v9))+1))+1))<(gA:Int))) (λKf=>
      aZ w2.drew (jo.add 0) λuJ aap aaq=>
      Kf (uJ,aap,aaq) w2.drew) (none,0,0) w2.drew λig _=>
     gd (α:=Addr) (decide ((IntKind.wrap .i64 ((IntKind.wrap .i64 ((IntKind.wrap .i64 (2*v9))+1))+1))<(gA:Int))) (λk33=>
      cr ig.1 ig.2.1 (IntKind.wrap .i64 ((IntKind.wrap .i64 ((IntKind.wrap .i64 (2*v9))+1))+1)) 1 λJT=>
      k33 JT w2.drew) ⟨0,0,none⟩ w2.drew λlZ _=>
     gd (α:=Int) (decide ((IntKind.wrap .i64 ((IntKind.wrap .i64 ((IntKind.wrap .i64 (2*v9))+1))+1))<(gA:Int))) (λk36=>
      aW .i64 w2.drew lZ λnh=>
      k36 nh w2.drew) 0 w2.drew λpg _=>
     gd (α:=Addr) (decide ((IntKind.wrap .i64 ((IntKind.wrap .i64 ((IntKind.wrap .i64 (2*v9))+1))+1))<(gA:Int))) (λTb=>
      nn a0 λG_=>
      Tb G_ w2.drew) ⟨0,0,none⟩ w2.drew λtY _=>
     gd (α:=(qA×Nat×Nat)) (decide ((IntKind.wrap .i64 ((IntKind.wrap .i64 ((IntKind.wrap .i64 (2*v9))+1))+1))<(gA:Int))) (λk42=>
      aZ w2.drew (tY.add 0) λpL He Hf=>
      k42 (pL,He,Hf) w2.drew) (none,0,0) w2.drew λj_ _=>
     gd (α:=Addr) (decide ((IntKind.wrap .i64 ((IntKind.wrap .i64 ((IntKind.wrap .i64 (2*v9))+1))+1))<(gA:Int))) (λk45=>
      cr j_.1 j_.2.1 (IntKind.wrap .i64 ((IntKind.wrap .i64 (2*v9))+1)) 1 λN7=>
      k45 N7 w2.drew) ⟨0,0,none⟩ w2.drew λnA _=>
     gd (α:=Int) (decide ((IntKind.wrap .i64 ((IntKind.wrap .i64 ((IntKind.wrap .i64 (2*v9))+1))+1))<(gA:Int))) (λk48=>
      aW .i64 w2.drew nA λng=>
      k48 ng w2.drew) 0 w2.drew λvY _=>
     gd (α:=Bool) (decide ((IntKind.wrap .i64 ((IntKind.wrap .i64 ((IntKind.wrap .i64 (2*v9))+1))+1))<(gA:Int))) (λk51=>
      wS Tryz.prog (jj) [qI pg,qI vY] w2.drew λe53 w4=>∃xN:Bool,e53=Ending.returned (.bool xN)/\
      k51 xN w4) false w2.drew λvG w5=>
     bC (cond (decide ((IntKind.wrap .i64 ((IntKind.wrap .i64 ((IntKind.wrap .i64 (2*v9))+1))+1))<(gA:Int))) vG false) (
      kz ((IntKind.wrap .i64 ((IntKind.wrap .i64 ((IntKind.wrap .i64 (2*v9))+1))+1)),()) w5) (
      kz ((IntKind.wrap .i64 ((IntKind.wrap .i64 (2*v9))+1)),()) w5)) λs18 w3=>match s18 with
    | (JB,_)=>
    nn a0 λp56=>
    nZ w3.drew (p56.add 2) λxe=>
    nn a0 λUH=>
    aZ w3.drew (UH.add 0) λxl AQ CD=>
    cr xl AQ JB 1 λp60=>
    aW .i64 w3.drew p60 λHD=>
    wS Tryz.prog (xe) [qI HD,qI x5] w3.drew λe63 w6=>∃zb:Bool,e63=Ending.returned (.bool zb)/\
    bC (!zb) (
     k7 (v9,()) w6) (
     nn a0 λp65=>
     aZ w6 (p65.add 0) λv_ EE HP=>
     cr v_ EE JB 1 λp67=>
     aW .i64 w6 p67 λpU=>
     qu 101 [.pointer a0,qI v9,qI pU] w6 λw7=>
     fD (JB,()) w7))) (a1,()) w) λs8 w1=>match s8 with
 | (v6,_)=>
 qu 101 [.pointer a0,qI v6,qI x5] w1 λw8=>
 R (.tuple #[]) w8
theorem IX (a0 a1 w R) (h:agA a0 a1 w R):qE 167 #[.pointer a0,qI a1] w R:=qv (.s .l (.s (.j [(1,.one (.int .i64))] (.b (.o [(1,.one (.int .i64))] (.b (.s .l (.s (.s .l (.c .l .l)) (.s (.j [(5,.one (.int .i64))] (.s (.d [0,1,0,4,12,28,60,127,255,511,1023,2047,4095,511,8703,25087,57855,511,131583,516607,1040895,511,2097663,6291967,14680575,511,65012223,132121087,268435455,536870911]) (.c .l .l))) (.s (.s (.d [0,1,3,7,0,16,48,112,0,496,1008,0,4095,8191]) (.c .l .l)) (.s .l .l))))))))) .l)) Tryz.func167 (by kernel_rfl) (by kernel_rfl) h
theorem Ys:br qQ 167:=by kernel_rfl
def agB (a0:qA) (a1:Int) (w:World) (R:qR):Prop:=
 nn a0 λp2=>
 aZ w (p2.add 0) λx3 sV F5=>
 cg w [qI a1] 3 λb4 w1=>
 qp 59 #[.slice x3 sV F5,.slice (some (⟨b4,0,none⟩:Addr)) 1 1] w1 λx5 sS yU w2=>
 nn a0 λp6=>
 st w2 ((p6.add 0).add 0) (.slice x5 sS yU) λw3=>
 nn a0 λp8=>
 aZ w3 (p8.add 0) λx9 yg Bm=>
 qu 131 [.pointer a0,qI (IntKind.wrap .i64 ((yg:Int) - 1))] w3 λw4=>
 R (.tuple #[]) w4
theorem IY (a0 a1 w R) (h:agB a0 a1 w R):qE 133 #[.pointer a0,qI a1] w R:=qv (.s .l .l) Tryz.func133 (by kernel_rfl) (by kernel_rfl) h
theorem agC:br qQ 133:=by kernel_rfl
def agD (a0:qA) (w:World) (R:qR):Prop:=
 nn a0 λp3=>
 aZ w (p3.add 0) λx4 lQ sy=>
 cr x4 lQ 0 1 λp5=>
 aW .i64 w p5 λx6=>
 nn a0 λp8=>
 aZ w (p8.add 1) λx9 yg Bm=>
 cr x9 yg (IntKind.wrap .i64 (x6 - 1)) 1 λxJ=>
 st w (xJ.add 0) (qI (-1)) λw1=>
 nn a0 λrF=>
 aZ w1.drew (rF.add 0) λdJ mP qw=>
 nn a0 λrG=>
 aZ w1.drew (rG.add 0) λdV fM gU=>
 cr dJ mP (IntKind.wrap .i64 ((fM:Int) - 1)) 1 λqs=>
 aW .i64 w1.drew qs λfk=>
 nn a0 λDi=>
 aZ w1.drew.drew (Di.add 0) λgh LZ Ct=>
 nn a0 λPr=>
 aZ w1.drew.drew (Pr.add 0) λeX gA pN=>
 (0:Int)<=(IntKind.wrap .i64 ((gA:Int) - 1))/\(IntKind.wrap .i64 ((gA:Int) - 1))<=(Ct:Int)/\
 nn a0 λTU=>
 st w1.drew.drew ((TU.add 0).add 0) (.slice (jZ gh Ct 0 1) ((Int.toNat (IntKind.wrap .i64 ((gA:Int) - 1))) - 0) (Ct - 0)) λw2=>
 jn (σ:=Unit) (λEy=>
  nn a0 λJC=>
  aZ w2 (JC.add 0) λjj AE Ci=>
  bC (decide ((AE:Int)>0)) (
   qu 101 [.pointer a0,qI 0,qI fk] w2 λw4=>
   qu 167 [.pointer a0,qI 0] w4 λw5=>
   Ey (()) w5) (
   Ey (()) w2)) λs23 w3=>match s23 with
 | (_)=>
 R (qI x6) w3
theorem IZ (a0 w R) (h:agD a0 w R):qE 128 #[.pointer a0] w R:=qv (.s .l (.s .l (.s .l (.s (.d [0,1,3,7,0,16,48,112,240,496,1023,2047,4095]) (.s (.d [0,0,2,6,14,0,32,96,224,480,992,2046,4095,8191,16383]) (.s (.j [] (.s .l (.c (.s .l .l) .l))) (.s .l .l))))))) Tryz.func128 (by kernel_rfl) (by kernel_rfl) h
theorem agE:br qQ 128:=by kernel_rfl
def agF (a0:qA) (w:World) (R:qR):Prop:=
 nn a0 λp2=>
 aZ w (p2.add 0) λx3 sV F5=>
 lp (σ:=Int×Unit) (λs6 w1 k5=>match s6 with
  | (v4,_)=>
  bC (decide (v4 >= 0)) (
   qu 167 [.pointer a0,qI v4] w1 λw2=>
   k5 ((IntKind.wrap .i64 (v4 - 1)),()) w2) (
   R (.tuple #[]) w1)) ((IntKind.wrap .i64 ((IntKind.wrap .i64 (Int.tdiv (sV:Int) 2)) - 1)),()) w
theorem I1 (a0 w R) (h:agF a0 w R):qE 168 #[.pointer a0] w R:=qv (.s .l (.b (.o [(2,.one (.int .i64))] (.s (.s .l (.c .l .l)) (.s (.b .l) .l))))) Tryz.func168 (by kernel_rfl) (by kernel_rfl) h
theorem agG:br qQ 168:=by kernel_rfl
end T
namespace eR
open Go Vc T
abbrev I (n:Int):Value:=.int .i64 n
abbrev F (n:Nat):Value:=.float .f64 n
abbrev S (b n c:Nat):Value:=.slice (some ⟨b,0,none⟩) n c
structure nk (w:World) (h sb ib pb:Nat) (sc:List Nat) (step aK:Nat) (it rest:List Int) (pl:List Int):Prop where
 obj:b_ w h [S sb sc.length sc.length,F step,F aK,S ib it.length (it.length+rest.length),S pb pl.length pl.length,.func (.func 100) #[.pointer (some ⟨h,0,none⟩)] #[]] 169
 gP:b_ w sb (sc.map F) 25
 items:b_ w ib ((it++rest).map I) 3
 jE:b_ w pb (pl.map I) 3
 len:pl.length=sc.length
 hs:h≠sb
 hi:h≠ib
 hp:h≠pb
 si:sb≠ib
 sp:sb≠pb
 ip:ib≠pb
theorem Yt {w:World} {h o ib pb ni ci np cp:Nat} {its pls:List Int} {a b c:Value} {jr x:Int} {ho:List Value}
  (hO:w.cell? ⟨h,o,none⟩=some (S ib ni ci)) (hP:w.cell? ⟨h,o+1,none⟩=some (S pb np cp)) (hI:b_ w ib (its.map I) 3) (hPl:b_ w pb (pls.map I) 3)
  (bz:ib≠pb) (hhi:h≠ib) (h0:0<=jr) (h1:jr<ni) (h2:ni<=its.length) (h3:1<=x) (h4:x<=np) (h5:np<=pls.length) (h6:x<=9223372036854775807) :
  Calls Tryz.prog 101 #[.pointer (some ⟨h,o,none⟩),I jr,I x] w λe w'=>e=.returned (.tuple #[])/\af (λi=>i=ib\/i=pb) w w'/\
   b_ w' ib ((its.set jr.toNat x).map I) 3/\b_ w' pb ((pls.set (x - 1).toNat jr).map I) 3:=by
 refine (IU (some ⟨h,o,none⟩) jr x w (λv w'=>v=.tuple #[]/\af (λi=>i=ib\/i=pb) w w'/\
   b_ w' ib ((its.set jr.toNat x).map I) 3/\b_ w' pb ((pls.set (x - 1).toNat jr).map I) 3) ?_).mono λe w' ⟨v,he,hv,hk⟩=>⟨by rw [he,hv],hk⟩
 unfold agx;have hx:IntKind.wrap .i64 (x - 1)=x - 1:=by rw [IntKind.wrap_i64]; omega
 simp only [ag,Nat.zero_add,Nat.add_zero,hx];refine ay (au hO (cu h0 h1 ?_));simp only [ag,Nat.add_zero];refine aG hI (by simp; omega) rfl λw1 hI1 k1 _=>?_;have hP1:=k1.cell hP (λe=>hhi e);refine ay (au hP1 (cu (by omega) (by omega) ?_));simp only [ag,Nat.add_zero];have amd:=hPl.aJ k1 (Ne.symm bz);refine aG amd (by simp; omega) rfl λw2 hP2 k2 _=>?_;refine ⟨trivial,?_,?_,?_⟩
 ·exact (k1.mono λ_ _ h=>Or.inl h).thenS k2 (Or.inr rfl)
 ·have:=hI1.aJ k2 bz;rwa [<-List.map_set] at this
 ·rwa [<-List.map_set] at hP2
def upto (i n:Nat) (g:Nat->Int):List Int:=(List.range n).map λk=>if k<i then g k else 0
theorem BL (n:Nat) (g:Nat->Int):upto 0 n g=List.replicate n 0:=by
 apply List.ext_getElem<;>simp [upto]
theorem ri (i n:Nat) (g:Nat->Int):(upto i n g).length=n:=by simp [upto]
theorem Fx (i n:Nat) (g:Nat->Int) (h:i<n):(upto i n g).set i (g i)=upto (i+1) n g:=by
 apply List.ext_getElem
 ·simp [upto]
 ·intro k h1 h2;simp only [upto,List.getElem_set,List.getElem_map,List.getElem_range];by_cases hk:i=k
  ·subst hk; simp
  ·rw [if_neg hk];by_cases LV:k<i
   ·rw [if_pos LV,if_pos (by omega)]
   ·rw [if_neg LV,if_neg (by omega)]
theorem RU (n:Nat) (g:Nat->Int):upto n n g=(List.range n).map g:=by
 apply List.map_congr_left;intro k hk;simp at hk;simp [hk]
def one:Nat:=4607182418800017408
def rj (n:Int) (d:Nat):Bool:=decide (0<=n)&&decide (n<=1048576)&&
 (((FloatKind.format .f64).order d 4602678819172646912==some .gt || (FloatKind.format .f64).order d 4602678819172646912==some .eq)&&
  ((FloatKind.format .f64).order d 4607182418800017408==some .lt || (FloatKind.format .f64).order d 4607182418800017408==some .eq))
theorem Fy {w0 w7:World} {h sb ib pb n:Nat} {d:Nat} {R:Value->World->Prop} (hn:n<=1048576)
  (hO:b_ w7 h [S sb n n,F one,F d,S ib n n,S pb n n,.func (.func 100) #[.pointer (some ⟨h,0,none⟩)] #[]] 169)
  (hS:b_ w7 sb ((List.replicate n 0).map F) 25) (hI:b_ w7 ib ((List.replicate n (0:Int)).map I) 3) (hP:b_ w7 pb ((List.replicate n (0:Int)).map I) 3)
  (d1:h≠sb) (d2:h≠ib) (d3:h≠pb) (d4:sb≠ib) (d5:sb≠pb) (d6:ib≠pb) (hib:w0.heap.size<=ib) (hpb:w0.heap.size<=pb) (hK:af aq w0 w7)
  (hR:∀w',af aq w0 w'->nk w' h sb ib pb (List.replicate n 0) one d ((List.range n).map λk:Nat=>(k:Int)+1) [] ((List.range n).map λk:Nat=>(k:Int))->R (.tuple #[.pointer (some ⟨h,0,none⟩),.int .i64 0]) w') :
  lp (σ:=Int×Unit) (λN8 w8 gF=>
    bC (decide (N8.1<(n:Int))) (
     cl Tryz.prog 101 [.pointer (some (⟨h,3,none⟩:Addr)),.int .i64 N8.1,.int .i64 (IntKind.wrap .i64 (N8.1+1))] w8 λe16 w9=>e16=Ending.returned (.tuple #[])/\
     gF ((IntKind.wrap .i64 (N8.1+1)),()) w9) (
     R (.tuple #[.pointer (some (⟨h,0,none⟩:Addr)),.int .i64 0]) w8)) (0,()) w7:=by
 refine bX (λs w=>0<=s.1/\s.1<=n/\af aq w0 w/\b_ w h [S sb n n,F one,F d,S ib n n,S pb n n,.func (.func 100) #[.pointer (some ⟨h,0,none⟩)] #[]] 169/\b_ w sb ((List.replicate n 0).map F) 25/\
  b_ w ib ((upto s.1.toNat n λk=>(k:Int)+1).map I) 3/\b_ w pb ((upto s.1.toNat n λk=>(k:Int)).map I) 3) (λs _=>(n - s.1).toNat)
  ⟨by simp,by simp,hK,hO,hS,by simpa [BL] using hI,by simpa [BL] using hP⟩ ?_
 rintro ⟨i,⟨⟩⟩ w8 ⟨h0,h1,hK8,JE,hS8,hI8,hP8⟩;simp only [] at h0 h1 hI8 hP8 ⊢;refine aF (λaM=>?_) (λbL=>?_)
 ·have aM:i<n:=by simpa using aM
  have hw:IntKind.wrap .i64 (i+1)=i+1:=by rw [IntKind.wrap_i64]; omega
  rw [hw];refine az BK (Yt (a:=.bool true) (b:=.bool true) (c:=.bool true) (ho:=[]) (JE.cell 3) (JE.cell 4) hI8 hP8 d6 d2 h0 (by omega) (by rw [ri]; omega) (by omega) (by omega) (by rw [ri]; omega) (by omega)) λe w9 ⟨he,k9,hI9,hP9⟩=>⟨he,⟨by omega,by omega,?_,?_,?_,?_,?_⟩,by omega⟩
  ·exact hK8.trans k9 λj hj h=>by rcases h with rfl | rfl<;>omega
  ·exact JE.ax k9 λh=>by rcases h with h | h<;>contradiction
  ·exact hS8.ax k9 λh=>by rcases h with h | h<;>contradiction
  ·have e1:=Fx i.toNat n (λk=>(k:Int)+1) (by omega);rw [show ((i.toNat:Nat):Int)+1=i+1 by omega] at e1;rw [e1] at hI9;rwa [show (i+1).toNat=i.toNat+1 by omega]
  ·have e1:=Fx i.toNat n (λk=>(k:Int)) (by omega);rw [show ((i.toNat:Nat):Int)=i by omega] at e1;rw [show (i+1 - 1).toNat=i.toNat by omega,e1] at hP9;rwa [show (i+1).toNat=i.toNat+1 by omega]
 ·have bL:¬i<n:=by simpa using bL
  obtain rfl:i=n:=by omega
  simp only [Int.toNat_natCast,RU] at hI8 hP8;refine hR w8 hK8 ⟨?_,hS8,?_,hP8,by simp,d1,d2,d3,d4,d5,d6⟩
  ·simpa using JE
  ·simpa using hI8
def AF (n:Int) (d:Nat) (w:World) (v:Value) (w':World):Prop:=af aq w w'/\
   ((rj n d=false/\v=(.tuple #[.pointer none,I 2]))\/
    (rj n d=true/\∃h sb ib pb,w.heap.size<=h/\w.heap.size<=sb/\w.heap.size<=ib/\w.heap.size<=pb/\v=(.tuple #[.pointer (some ⟨h,0,none⟩),I 0])/\
     nk w' h sb ib pb (List.replicate n.toNat 0) one d ((List.range n.toNat).map λk:Nat=>(k:Int)+1) [] ((List.range n.toNat).map λk:Nat=>(k:Int))))
theorem Pb (n:Int) (d:Nat) (w:World) (hn : -9223372036854775808<=n/\n<=9223372036854775807) :
  Calls Tryz.prog 67 #[I n,F d] w λe w'=>∃v,e=.returned v/\AF n d w v w':=by
 refine M4 n d w (AF n d w) ?_;unfold V67;have hf:(cond (cond (decide (n<0)) true (decide (n>1048576))) true (!(cond ((FloatKind.format .f64).order d 4602678819172646912==some .gt || (FloatKind.format .f64).order d 4602678819172646912==some .eq) ((FloatKind.format .f64).order d 4607182418800017408==some .lt || (FloatKind.format .f64).order d 4607182418800017408==some .eq) false)))=!rj n d:=by
  unfold rj;by_cases h1:n<0
  ·have:¬0<=n:=by omega
   simp [h1,this]
  ·by_cases h2:n>1048576
   ·have:¬n<=1048576:=by omega
    simp [h1,h2,this]
   ·have e1:0<=n:=by omega
    have e2:n<=1048576:=by omega
    simp [h1,h2,e1,e2]
 rw [hf];refine aF (λh=>⟨af.refl _ _,Or.inl ⟨by simpa using h,rfl⟩⟩) λh=>?_;have KD:rj n d=true:=by simpa using h
 have GC:0<=n/\n<=1048576:=by
  simp only [rj,Bool.and_eq_true,decide_eq_true_eq] at KD;exact KD.1
 obtain ⟨m,rfl⟩:∃m:Nat,n=m:=⟨n.toNat,by omega⟩
 refine wY Tryz.underlying165 (z:=F 0) (B:=8) (by kernel_rfl) rfl (by omega) (by omega) (by omega) λsb w1 hsb hS k1=>?_;rw [Int.toNat_natCast] at hS ⊢;refine aD λh w2 hh hO k2=>?_;have hK2:af aq w w2:=k1.ak k2;have hS2:=hS.aa k2;have l1:=hS.lt;have l2:=hO.lt;have z1:=k1.size;have z2:=k2.size;have hd:=(af.refl aq w2).drew;have agH:=hS2.drew;have agI:=hO.drew;simp only [ag,Nat.zero_add,Nat.add_zero,Nat.reduceAdd];refine ⟨?_,?_⟩
 ·refine wY Tryz.underlying59 (z:=I 0) (B:=8) (by kernel_rfl) rfl (by omega) (by omega) (by omega) λib w3 hib hI k3=>?_;rw [Int.toNat_natCast] at hI ⊢;refine wY Tryz.underlying59 (z:=I 0) (B:=8) (by kernel_rfl) rfl (by omega) (by omega) (by omega) λpb w4 hpb hP k4=>?_;rw [Int.toNat_natCast] at hP ⊢;have e2:w2.drew.heap.size=w2.heap.size:=rfl;have l3:=hI.lt;have z3:=k3.size;have uA:=(agI.aa k3).aa k4;have X7:=(hK2.drew.ak k3).ak k4;have hS4:=(agH.aa k3).aa k4;have hI4:=hI.aa k4;refine aG uA (by simp) rfl λw5 Pj k5 _=>?_;refine aG Pj (by simp) rfl λw6 SZ k6 _=>?_;refine aG SZ (by simp) rfl λw7 Vd k7 _=>?_;have hK7:=((X7.bw k5 (by omega)).bw k6 (by omega)).bw k7 (by omega);refine Fy (R:=AF m d w) (w0:=w) (ib:=ib) (pb:=pb) (sb:=sb) (d:=d) (by omega) Vd ?_ ?_ ?_ (by omega) (by omega) (by omega) (by omega) (by omega) (by omega) (by omega) (by omega) hK7 ?_
  ·have:=((hS4.aJ k5 (by omega)).aJ k6 (by omega)).aJ k7 (by omega);simpa using this
  ·have:=((hI4.aJ k5 (by omega)).aJ k6 (by omega)).aJ k7 (by omega);simpa using this
  ·have:=((hP.aJ k5 (by omega)).aJ k6 (by omega)).aJ k7 (by omega);simpa using this
  ·exact λw' ON abJ=>⟨ON,Or.inr ⟨KD,h,sb,ib,pb,by omega,by omega,by omega,by omega,rfl,by simpa using abJ⟩⟩
 ·refine wY Tryz.underlying59 (z:=I 0) (B:=8) (by kernel_rfl) rfl (by omega) (by omega) (by omega) λpb w3 hib hI k3=>?_;rw [Int.toNat_natCast] at hI ⊢;refine wY Tryz.underlying59 (z:=I 0) (B:=8) (by kernel_rfl) rfl (by omega) (by omega) (by omega) λib w4 hpb hP k4=>?_;rw [Int.toNat_natCast] at hP ⊢;have e2:w2.drew.heap.size=w2.heap.size:=rfl;have l3:=hI.lt;have z3:=k3.size;have uA:=(agI.aa k3).aa k4;have X7:=(hK2.drew.ak k3).ak k4;have hS4:=(agH.aa k3).aa k4;have hI4:=hI.aa k4;refine aG uA (by simp) rfl λw5 Pj k5 _=>?_;refine aG Pj (by simp) rfl λw6 SZ k6 _=>?_;refine aG SZ (by simp) rfl λw7 Vd k7 _=>?_;have hK7:=((X7.bw k5 (by omega)).bw k6 (by omega)).bw k7 (by omega);refine Fy (R:=AF m d w) (w0:=w) (ib:=ib) (pb:=pb) (sb:=sb) (d:=d) (by omega) Vd ?_ ?_ ?_ (by omega) (by omega) (by omega) (by omega) (by omega) (by omega) (by omega) (by omega) hK7 ?_
  ·have:=((hS4.aJ k5 (by omega)).aJ k6 (by omega)).aJ k7 (by omega);simpa using this
  ·have:=((hP.aJ k5 (by omega)).aJ k6 (by omega)).aJ k7 (by omega);simpa using this
  ·have:=((hI4.aJ k5 (by omega)).aJ k6 (by omega)).aJ k7 (by omega);simpa using this
  ·exact λw' ON abJ=>⟨ON,Or.inr ⟨KD,h,sb,ib,pb,by omega,by omega,by omega,by omega,rfl,by simpa using abJ⟩⟩
end eR
namespace eR
open Go Vc T
section
variable {w:World} {h sb ib pb:Nat} {sc:List Nat} {step aK:Nat} {it rest pl:List Int}
theorem Yu (hR:nk w h sb ib pb sc step aK it rest pl) (v:Int) :
  Calls Tryz.prog 129 #[.pointer (some ⟨h,0,none⟩),I v] w λe w'=>e=.returned (.bool (decide (1<=v)&&decide (v<=sc.length)))/\w'=w:=by
 refine (IL (some ⟨h,0,none⟩) v w (λx w'=>x=.bool (decide (1<=v)&&decide (v<=sc.length))/\w'=w) ?_).mono λe w' ⟨x,he,hv,hk⟩=>⟨by rw [he,hv],hk⟩
 unfold agn;by_cases h1:1<=v
 ·refine aS (by simpa using h1) (ay ?_);refine aS (by simpa using h1) ?_;simp only [ag,Nat.zero_add];refine au (hR.obj.cell 0) ?_;simp [h1]
 ·refine a_ (by simpa using h1) ?_;refine a_ (by simpa using h1) ?_;simp [h1]
theorem Yv (hR:nk w h sb ib pb sc step aK it rest pl) {v:Int} (h1:1<=v) (h2:v<=sc.length) (h3:v<=9223372036854775807) {x:Int} (hx:pl[(v - 1).toNat]?=some x) :
  Calls Tryz.prog 130 #[.pointer (some ⟨h,3,none⟩),I v] w λe w'=>e=.returned (.bool (decide (0<=x)))/\w'=w:=by
 refine (IV (some ⟨h,3,none⟩) v w (λy w'=>y=.bool (decide (0<=x))/\w'=w) ?_).mono λe w' ⟨x,he,hv,hk⟩=>⟨by rw [he,hv],hk⟩
 unfold agy;have hw:IntKind.wrap .i64 (v - 1)=v - 1:=by rw [IntKind.wrap_i64]; omega
 simp only [ag,Nat.reduceAdd,hw];refine ay (au (hR.obj.cell 4) (cu (by omega) (by have:=hR.len; omega) ?_));refine ah (x:=x) (by rw [hR.jE.cell,List.getElem?_map,hx]; rfl) ⟨rfl,trivial⟩
def within (pl:List Int) (n:Nat) (v:Int):Bool:=decide (1<=v)&&decide (v<=n)&&(match pl[(v - 1).toNat]? with | some x=>decide (0<=x) | none=>false)
end
end eR
namespace eR
open Go Vc T
structure FC (n:Nat) (L pl:List Int):Prop where
 len:pl.length=n
 jr:∀(i:Nat) (y:Int),L[i]?=some y->1<=y/\y<=n/\pl[(y - 1).toNat]?=some (i:Int)
 out:∀v:Int,1<=v->v<=n->(∀i:Nat,L[i]?≠some v)->pl[(v - 1).toNat]?=some (-1)
theorem FC.inj {n:Nat} {L pl:List Int} (h:FC n L pl) {i j:Nat} {y:Int} (hi:L[i]?=some y) (hj:L[j]?=some y):i=j:=by
 have h1:=(h.jr i y hi).2.2;have h2:=(h.jr j y hj).2.2;rw [h1] at h2;injection h2 with h2;omega
structure PC (n:Nat) (L:List Int) (h:Nat) (x:Int) (pl:List Int):Prop where
 lt:h<L.length
 x1:1<=x
 x2:x<=n
 fc:FC n (L.set h x) (pl.set (x - 1).toNat h)
theorem PC.start {n:Nat} {L pl:List Int} {h:Nat} {x:Int} (hx:L[h]?=some x) (hf:FC n L pl):PC n L h x pl:=by
 have aM:h<L.length:=(List.getElem?_eq_some_iff.1 hx).1;have h1:=hf.jr h x hx;have e1:L.set h x=L:=by
  apply List.ext_getElem?;intro i;rw [List.getElem?_set];by_cases hi:h=i
  ·subst hi; rw [if_pos rfl,if_pos aM,hx]
  ·rw [if_neg hi]
 have e2:pl.set (x - 1).toNat h=pl:=by
  apply List.ext_getElem?;intro i;rw [List.getElem?_set];by_cases hi:(x - 1).toNat=i
  ·subst hi;rw [if_pos rfl,if_pos (List.getElem?_eq_some_iff.1 h1.2.2).1,h1.2.2]
  ·rw [if_neg hi]
 exact ⟨aM,h1.1,h1.2.1,by rw [e1,e2]; exact hf⟩
theorem PC.step {n:Nat} {L pl:List Int} {h a:Nat} {x y:Int} (hp:PC n L h x pl) (ha:a≠h) (hy:L[a]?=some y):1<=y/\y<=n/\PC n (L.set h y) a x (pl.set (y - 1).toNat h):=by
 have aM:a<L.length:=(List.getElem?_eq_some_iff.1 hy).1;have WJ:pl.length=n:=by have:=hp.fc.len; simpa using this
 have hMa:(L.set h x)[a]?=some y:=by rw [List.getElem?_set,if_neg (Ne.symm ha)]; exact hy
 have hMh:(L.set h x)[h]?=some x:=by rw [List.getElem?_set]; simp [hp.lt]
 have K_:=hp.fc.jr a y hMa;have hxy:x≠y:=λe=>ha (hp.fc.inj (e ▸ hMa) hMh);have lU:=hp.x1;have EN:=hp.x2;have Tm:∀i,((L.set h y).set a x)[i]?=if i=a then some x else if i=h then some y else L[i]?:=by
  intro i;have hh:=hp.lt;rw [List.getElem?_set,List.length_set,List.getElem?_set];by_cases e1:a=i
  ·subst e1; simp [aM]
  ·rw [if_neg e1,if_neg (Ne.symm e1)];by_cases e2:h=i
   ·subst e2; simp [hh]
   ·rw [if_neg e2,if_neg (Ne.symm e2)]
 have hP':∀v:Int,1<=v->v<=n->((pl.set (y - 1).toNat h).set (x - 1).toNat a)[(v - 1).toNat]?=if v=x then some (a:Int) else if v=y then some (h:Int) else pl[(v - 1).toNat]?:=by
  intro v v1 v2;rw [List.getElem?_set,List.length_set,List.getElem?_set];by_cases e1:v=x
  ·subst e1;rw [if_pos rfl,if_pos (by omega),if_pos rfl]
  ·rw [if_neg e1,if_neg (by omega)];by_cases e2:v=y
   ·subst e2;rw [if_pos rfl,if_pos (by omega),if_pos rfl]
   ·rw [if_neg e2,if_neg (by omega)]
 have hP:∀v:Int,1<=v->v<=n->v≠x->(pl.set (x - 1).toNat h)[(v - 1).toNat]?=pl[(v - 1).toNat]?:=by
  intro v v1 v2 hv;rw [List.getElem?_set,if_neg (by omega)]
 refine ⟨K_.1,K_.2.1,by simpa using aM,lU,EN,by simpa using WJ,?_,?_⟩
 ·intro i z hz;rw [Tm] at hz;split at hz
  ·injection hz with hz;subst hz;refine ⟨lU,EN,?_⟩;rw [hP' _ lU EN,if_pos rfl]
   subst_vars; rfl
  ·split at hz
   ·injection hz with hz;subst hz;refine ⟨K_.1,K_.2.1,?_⟩;rw [hP' _ K_.1 K_.2.1,if_neg (Ne.symm hxy),if_pos rfl]
    subst_vars; rfl
   ·rename_i n1 n2;have Bb:(L.set h x)[i]?=some z:=by rw [List.getElem?_set,if_neg (Ne.symm n2)]; exact hz
    have hf:=hp.fc.jr i z Bb;have zx:z≠x:=λe=>n2 (hp.fc.inj (e ▸ Bb) hMh);have zy:z≠y:=λe=>n1 (hp.fc.inj (e ▸ Bb) hMa);refine ⟨hf.1,hf.2.1,?_⟩;rw [hP' _ hf.1 hf.2.1,if_neg zx,if_neg zy,<-hP _ hf.1 hf.2.1 zx];exact hf.2.2
 ·intro v v1 v2 hv;have vx:v≠x:=λe=>hv a (by rw [Tm,if_pos rfl,e]);have vy:v≠y:=λe=>hv h (by rw [Tm,if_neg (Ne.symm ha),if_pos rfl,e]);rw [hP' _ v1 v2,if_neg vx,if_neg vy,<-hP _ v1 v2 vx];refine hp.fc.out v v1 v2 λi hi=>?_;rw [List.getElem?_set] at hi;split at hi
  ·split at hi
   ·injection hi with hi; exact vx hi.symm
   ·cases hi
  ·rename_i n1;by_cases e1:i=a
   ·subst e1; rw [hy] at hi; injection hi with hi; exact vy hi.symm
   ·exact hv i (by rw [Tm,if_neg e1,if_neg (Ne.symm n1)]; exact hi)
def jK (sc:List Nat) (v w:Int):Bool:=
 cond ((FloatKind.format .f64).order (sc.getD (v - 1).toNat 0) (sc.getD (w - 1).toNat 0)==some .gt) true
  (cond ((FloatKind.format .f64).order (sc.getD (v - 1).toNat 0) (sc.getD (w - 1).toNat 0)==some .eq) (decide (v<w)) false)
def Gn (bf:Int->Int->Bool) (x:Int) (L:List Int) (a:Nat):List Int:=
 if h:a=0 then L.set a x else if bf x (L.getD ((a - 1) / 2) 0) then Gn bf x (L.set a (L.getD ((a - 1) / 2) 0)) ((a - 1) / 2) else L.set a x
termination_by a
decreasing_by omega
def lower (bf:Int->Int->Bool) (L:List Int) (a:Nat):Nat:=if 2*a+2<L.length/\bf (L.getD (2*a+2) 0) (L.getD (2*a+1) 0) then 2*a+2 else 2*a+1
def jW (bf:Int->Int->Bool) (x:Int) (L:List Int) (a:Nat):List Int:=
 if h:2*a+1<L.length then (if bf (L.getD (lower bf L a) 0) x then jW bf x (L.set a (L.getD (lower bf L a) 0)) (lower bf L a) else L.set a x) else L.set a x
termination_by L.length - a
decreasing_by
 have:lower bf L a=2*a+2\/lower bf L a=2*a+1:=by unfold lower; split<;>simp
 simp only [List.length_set];omega
theorem nU {l:List Int} {i:Nat} (h:i<l.length):l[i]?=some (l.getD i 0):=by
 rw [List.getD_eq_getElem?_getD,List.getElem?_eq_getElem h]; rfl
section
variable {w:World} {h sb ib pb:Nat} {sc:List Nat} {step aK:Nat} {it rest pl:List Int}
def IP (ib pb:Nat) (i:Nat):Prop:=i=ib\/i=pb
theorem nk.lay (hR:nk w h sb ib pb sc step aK it rest pl) (hs:sc.length<=1048576) {a:Nat} {x:Int} (ha:a<it.length) (h1:1<=x) (h2:x<=sc.length) :
  Calls Tryz.prog 101 #[.pointer (some ⟨h,3,none⟩),I a,I x] w λe w'=>e=.returned (.tuple #[])/\af (IP ib pb) w w'/\nk w' h sb ib pb sc step aK (it.set a x) rest (pl.set (x - 1).toNat a):=by
 have hl:=hR.len;refine (Yt (a:=.bool true) (b:=.bool true) (c:=.bool true) (ho:=[]) (jr:=(a:Int)) (hR.obj.cell 3) (hR.obj.cell 4) hR.items hR.jE hR.ip hR.hi (by omega) (by omega) (by simp) h1 (by omega) (by omega) (by omega)).mono
  λe w' ⟨he,hk,hI,hP⟩=>⟨he,hk,?_⟩
 have nI:∀{i},i≠ib->i≠pb->¬(λi=>i=ib\/i=pb) i:=λh1 h2 h=>by rcases h with h | h<;>contradiction
 refine ⟨?_,hR.gP.ax hk (nI hR.si hR.sp),?_,hP,by simpa using hl,hR.hs,hR.hi,hR.hp,hR.si,hR.sp,hR.ip⟩
 ·have:=hR.obj.ax hk (nI hR.hi hR.hp);simpa using this
 ·rw [Int.toNat_natCast,List.set_append_left _ _ ha] at hI;exact hI
theorem nk.drew (hR:nk w h sb ib pb sc step aK it rest pl):nk w.drew h sb ib pb sc step aK it rest pl:=
 ⟨hR.obj,hR.gP,hR.items,hR.jE,hR.len,hR.hs,hR.hi,hR.hp,hR.si,hR.sp,hR.ip⟩
theorem zU (hR:nk w h sb ib pb sc step aK it rest pl) (hs:sc.length<=1048576) {v u:Int} (v1:1<=v) (v2:v<=sc.length) (u1:1<=u) (u2:u<=sc.length) :
  Calls Tryz.prog 100 #[.pointer (some ⟨h,0,none⟩),I v,I u] w λe w'=>e=.returned (.bool (jK sc v u))/\w'=w.drew:=by
 refine (IK (some ⟨h,0,none⟩) v u w (λr w'=>r=.bool (jK sc v u)/\w'=w.drew) ?_).mono λe w' ⟨v,he,hv,hk⟩=>⟨by rw [he,hv],hk⟩
 unfold agm;have hR0:=hR.drew;generalize w.drew=w0 at *
 have e1:IntKind.wrap .i64 (v - 1)=v - 1:=by rw [IntKind.wrap_i64]; omega
 have e2:IntKind.wrap .i64 (u - 1)=u - 1:=by rw [IntKind.wrap_i64]; omega
 rw [e1,e2];have rd:∀{v:Int},1<=v->v<=sc.length->w0.cell? ⟨sb,(v - 1).toNat,none⟩=some (F (sc.getD (v - 1).toNat 0)):=λh1 h2=>by
  rw [hR0.gP.cell,List.getElem?_map,List.getD_eq_getElem?_getD,List.getElem?_eq_getElem (by omega)]; rfl
 refine ay ?_;simp only [ag,Nat.zero_add];refine au (hR0.obj.cell 0) (cu (by omega) (by omega) (dY (rd v1 v2) (ay ?_)));simp only [ag,Nat.zero_add];exact au (hR0.obj.cell 0) (cu (by omega) (by omega) (dY (rd u1 u2) ⟨rfl,by first | rfl | trivial⟩))
theorem nk.item (hR:nk w h sb ib pb sc step aK it rest pl) {a:Nat} (ha:a<it.length):w.cell? ⟨ib,a,none⟩=some (I (it.getD a 0)):=by
 rw [hR.items.cell,List.getElem?_map,List.getElem?_append_left ha,nU ha]; rfl
theorem dP {k:FuncId} {first cap:Array Value} {args:List Value} {w:World} {R:Ending->World->Prop} (h:cl Tryz.prog k (first.toList++args++cap.toList) w R) :
  wS Tryz.prog (.func (.func k) first cap) args w R:=⟨k,first,cap,rfl,h⟩
def zV (Q:World->Prop) (v:Value) (w':World):Prop:=v=.tuple #[]/\Q w'
def Laid (w:World) (h sb ib pb:Nat) (sc:List Nat) (step aK:Nat) (rest L:List Int) (w':World):Prop:=
 af (IP ib pb) w w'/\∃pl',nk w' h sb ib pb sc step aK L rest pl'/\FC sc.length L pl'
theorem Yw (hR:nk w h sb ib pb sc step aK it rest pl) (hs:sc.length<=1048576) (hi:it.length<=1048576) {a:Nat} (ha:a<it.length) (ame:PC sc.length it a (it.getD a 0) pl) :
  Calls Tryz.prog 131 #[.pointer (some ⟨h,3,none⟩),I a] w λe w'=>e=.returned (.tuple #[])/\Laid w h sb ib pb sc step aK rest (Gn (jK sc) (it.getD a 0) it a) w':=by
 refine (IW (some ⟨h,3,none⟩) a w (zV (Laid w h sb ib pb sc step aK rest (Gn (jK sc) (it.getD a 0) it a))) ?_).mono λe w' ⟨v,he,hv,hk⟩=>⟨by rw [he,hv],hk⟩
 unfold agz;generalize hx:it.getD a 0=x;refine ay ?_;simp only [ag,Nat.add_zero,Nat.reduceAdd];refine au (hR.obj.cell 3) (cu (by omega) (by omega) (ah (x:=x) (by rw [Int.toNat_natCast,hR.item ha,hx]) ?_));have hp0:PC sc.length it a x pl:=by rw [<-hx]; exact ame
 -- behind yf loop
 have fin:∀(w2:World) (L vJ:List Int) (b:Nat),af (IP ib pb) w w2->nk w2 h sb ib pb sc step aK L rest vJ->PC sc.length L b x vJ->L.set b x=Gn (jK sc) x it a->
   cl Tryz.prog 101 [.pointer (some (⟨h,3,none⟩:Addr)),.int .i64 (b:Int),.int .i64 x] w2 λUL w5=>UL=Ending.returned (.tuple #[])/\zV (Laid w h sb ib pb sc step aK rest (Gn (jK sc) x it a)) (.tuple #[]) w5:=by
  intro w2 L vJ b k2 iM tq hu;refine az BK (iM.lay hs tq.lt tq.x1 tq.x2) λe w5 ⟨he,k5,Of⟩=>⟨he,rfl,?_⟩
  refine ⟨k2.trans k5 λi _ h=>h,_,hu ▸ Of,hu ▸ tq.fc⟩
 refine Bh ?_;refine bX (λs w2=>∃(b:Nat) (L vJ:List Int),s.1=b/\L.length=it.length/\af (IP ib pb) w w2/\nk w2 h sb ib pb sc step aK L rest vJ/\PC sc.length L b x vJ/\Gn (jK sc) x L b=Gn (jK sc) x it a)
  (λs _=>s.1.toNat) ⟨a,it,pl,rfl,rfl,af.refl _ _,hR,hp0,rfl⟩ ?_
 rintro ⟨b',⟨⟩⟩ w2 ⟨b,L,vJ,rfl,hL,k2,iM,tq,hu⟩;simp only [];have hb:=tq.lt;refine aF (λBM=>?_) λhle=>?_
 ·have BM:0<b:=by simp at BM; omega
  have e1:IntKind.wrap .i64 (Int.tdiv (IntKind.wrap .i64 ((b:Int) - 1)) 2)=(((b - 1) / 2:Nat):Int):=by
   have e0:IntKind.wrap .i64 ((b:Int) - 1)=((b - 1:Nat):Int):=by rw [IntKind.wrap_i64]; omega
   rw [e0,Int.tdiv_eq_ediv_of_nonneg (by omega),IntKind.wrap_i64]; omega
  rw [e1];have OT:(b - 1) / 2<L.length:=by omega
  have dm:=iM.drew;refine ay ?_;simp only [ag,Nat.reduceAdd];refine cT (dm.obj.cell 5) (ay ?_);simp only [ag,Nat.reduceAdd,Nat.add_zero];refine au (dm.obj.cell 3) (cu (by omega) (by omega) (ah (x:=L.getD ((b - 1) / 2) 0) (by rw [Int.toNat_natCast]; exact dm.item OT) ?_));obtain ⟨y1,y2,Yx⟩:=tq.step (a:=(b - 1) / 2) (by omega) (nU OT);refine dP (az RS (zU dm hs tq.x1 tq.x2 y1 y2) λe w3 ⟨he,hw⟩=>⟨_,he,?_⟩);have oD:nk w3 h sb ib pb sc step aK L rest vJ:=by rw [hw]; exact dm.drew
  have k3:af (IP ib pb) w w3:=by rw [hw]; exact k2.drew.drew
  rw [Gn,dif_neg (by omega)] at hu;rcases Bool.eq_false_or_eq_true (jK sc x (L.getD ((b - 1) / 2) 0)) with hc | hc
  ·rw [hc,if_pos rfl] at hu;rw [hc];refine aT rfl (ay ?_);simp only [ag,Nat.add_zero];refine au (oD.obj.cell 3) (cu (by omega) (by omega) (ah (x:=L.getD ((b - 1) / 2) 0) (by rw [Int.toNat_natCast]; exact oD.item OT) ?_));refine az BK (oD.lay hs tq.lt y1 y2) λe w4 ⟨he,k4,uR⟩=>⟨he,⟨_,_,_,rfl,by simpa using hL,k3.trans k4 λi _ h=>h,uR,Yx,hu⟩,by omega⟩
  ·rw [hc,if_neg (by simp)] at hu;rw [hc];exact aX rfl (fin w3 L vJ b k3 oD tq hu)
 ·have wC:b=0:=by simp at hle; omega
  subst wC;rw [Gn,dif_pos rfl] at hu;exact fin w2 L vJ 0 k2 iM tq hu
theorem amf (hR:nk w h sb ib pb sc step aK it rest pl) (hs:sc.length<=1048576) (hi:it.length<=1048576) (hf:FC sc.length it pl) {a:Nat} (ha:a<it.length) :
  Calls Tryz.prog 131 #[.pointer (some ⟨h,3,none⟩),I a] w λe w'=>e=.returned (.tuple #[])/\Laid w h sb ib pb sc step aK rest (Gn (jK sc) (it.getD a 0) it a) w':=
 Yw hR hs hi ha (PC.start (nU ha) hf)
end
end eR
namespace eR
open Go Vc T
theorem KE (bf:Int->Int->Bool) (x:Int):∀(a:Nat) (L:List Int),(Gn bf x L a).length=L.length:=by
 intro a;induction a using Nat.strongRecOn with
 | ind a ih=>
  intro L;rw [Gn];split
  ·simp
  ·split
   ·rw [ih _ (by omega)]; simp
   ·simp
theorem zX (bf:Int->Int->Bool) (L:List Int) (a:Nat):(lower bf L a=2*a+2/\2*a+2<L.length)\/lower bf L a=2*a+1:=by
 unfold lower; split
 ·exact Or.inl ⟨rfl,by omega⟩
 ·exact Or.inr rfl
theorem rU (bf:Int->Int->Bool) (x:Int):∀(n:Nat) (a:Nat) (L:List Int),L.length - a=n->(jW bf x L a).length=L.length:=by
 intro n;induction n using Nat.strongRecOn with
 | ind n ih=>
  intro a L hn;rw [jW];split
  ·split
   ·have:=zX bf L a;rw [ih (L.length - lower bf L a) (by omega) _ _ (by simp)]; simp
   ·simp
  ·simp
section
variable {w:World} {h sb ib pb:Nat} {sc:List Nat} {step aK:Nat} {it rest pl:List Int}
theorem RV (hR:nk w h sb ib pb sc step aK it rest pl) (hs:sc.length<=1048576) (hi:it.length<=1048576) (hf:FC sc.length it pl) {a:Nat} (ha:a<it.length) :
  Calls Tryz.prog 167 #[.pointer (some ⟨h,3,none⟩),I a] w λe w'=>e=.returned (.tuple #[])/\Laid w h sb ib pb sc step aK rest (jW (jK sc) (it.getD a 0) it a) w':=by
 refine (IX (some ⟨h,3,none⟩) a w (zV (Laid w h sb ib pb sc step aK rest (jW (jK sc) (it.getD a 0) it a))) ?_).mono λe w' ⟨v,he,hv,hk⟩=>⟨by rw [he,hv],hk⟩
 unfold agA;generalize hx:it.getD a 0=x;refine ay ?_;simp only [ag,Nat.add_zero,Nat.reduceAdd];refine au (hR.obj.cell 3) (cu (by omega) (by omega) (ah (x:=x) (by rw [Int.toNat_natCast,hR.item ha,hx]) ?_));have hp0:PC sc.length it a x pl:=PC.start (by rw [nU ha,hx]) hf;have fin:∀(w2:World) (L vJ:List Int) (b:Nat),af (IP ib pb) w w2->nk w2 h sb ib pb sc step aK L rest vJ->PC sc.length L b x vJ->L.set b x=jW (jK sc) x it a->
   cl Tryz.prog 101 [.pointer (some (⟨h,3,none⟩:Addr)),.int .i64 (b:Int),.int .i64 x] w2 λUL w5=>UL=Ending.returned (.tuple #[])/\zV (Laid w h sb ib pb sc step aK rest (jW (jK sc) x it a)) (.tuple #[]) w5:=by
  intro w2 L vJ b k2 iM tq hu;refine az BK (iM.lay hs tq.lt tq.x1 tq.x2) λe w5 ⟨he,k5,Of⟩=>⟨he,rfl,?_⟩
  refine ⟨k2.trans k5 λi _ h=>h,_,hu ▸ Of,hu ▸ tq.fc⟩
 refine Bh ?_;refine bX (λs w2=>∃(b:Nat) (L vJ:List Int),s.1=b/\L.length=it.length/\af (IP ib pb) w w2/\nk w2 h sb ib pb sc step aK L rest vJ/\PC sc.length L b x vJ/\jW (jK sc) x L b=jW (jK sc) x it a)
  (λs _=>(it.length - s.1).toNat) ⟨a,it,pl,rfl,rfl,af.refl _ _,hR,hp0,rfl⟩ ?_
 rintro ⟨b',⟨⟩⟩ w2 ⟨b,L,vJ,rfl,hL,k2,iM,tq,hu⟩;simp only [];have hb:=tq.lt;have e1:IntKind.wrap .i64 (2*(b:Int))=((2*b:Nat):Int):=by rw [IntKind.wrap_i64]; omega
 have e2:IntKind.wrap .i64 (((2*b:Nat):Int)+1)=((2*b+1:Nat):Int):=by rw [IntKind.wrap_i64]; omega
 have e3:IntKind.wrap .i64 (((2*b+1:Nat):Int)+1)=((2*b+2:Nat):Int):=by rw [IntKind.wrap_i64]; omega
 simp only [e1,e2,e3];refine ay ?_;refine au (iM.obj.cell 3) ?_;rw [jW] at hu;refine aF (λbL=>?_) λaM=>?_
 ·have bL:¬2*b+1<L.length:=by simp at bL; omega
  rw [dif_neg bL] at hu;exact fin w2 L vJ b k2 iM tq hu
 have aM:2*b+1<L.length:=by simp at aM; omega
 rw [dif_pos aM] at hu;have J9:=zX (jK sc) L b;have Gp:∀{i:Nat},i<L.length->i≠b->1<=L.getD i 0/\L.getD i 0<=sc.length:=λh1 h2=>by
  have:=tq.step h2 (nU h1);exact ⟨this.1,this.2.1⟩
 refine ⟨λs w3=>s.1=((lower (jK sc) L b:Nat):Int)/\af (IP ib pb) w w3/\nk w3 h sb ib pb sc step aK L rest vJ,?_,?_⟩
 ·refine ay ?_;have dm:=iM.drew;refine au (dm.obj.cell 3) ?_;by_cases hc:2*b+2<L.length
  ·have kH:decide (((2*b+2:Nat):Int)<(L.length:Int))=true:=by simp; omega
   have r2:=Gp hc (by omega);have r1:=Gp aM (by omega);refine aS kH (ay (aS kH ?_));simp only [ag,Nat.reduceAdd,Nat.add_zero];refine cT (dm.obj.cell 5) (aS kH (ay (aS kH ?_)));refine au (dm.obj.cell 3) (aS kH (cu (by omega) (by show (_:Int)<((L.length:Nat):Int); omega) (aS kH (ah (x:=L.getD (2*b+2) 0) (by rw [Int.toNat_natCast]; exact dm.item hc) ?_))));refine aS kH (ay (aS kH ?_));refine au (dm.obj.cell 3) (aS kH (cu (by omega) (by show (_:Int)<((L.length:Nat):Int); omega) (aS kH (ah (x:=L.getD (2*b+1) 0) (by rw [Int.toNat_natCast]; exact dm.item aM) ?_))));refine aS kH ?_;refine dP (az RS (zU dm hs r2.1 r2.2 r1.1 r1.2) λe w4 ⟨he,hw⟩=>⟨_,he,?_⟩);have uR:nk w4 h sb ib pb sc step aK L rest vJ:=by rw [hw]; exact dm.drew
   have k4:af (IP ib pb) w w4:=by rw [hw]; exact k2.drew.drew
   rw [kH];rcases Bool.eq_false_or_eq_true (jK sc (L.getD (2*b+2) 0) (L.getD (2*b+1) 0)) with hq | hq
   ·rw [hq];refine aX rfl ⟨?_,k4,uR⟩;have:lower (jK sc) L b=2*b+2:=by unfold lower; rw [if_pos ⟨hc,hq⟩]
    rw [this]
   ·rw [hq];refine aT rfl ⟨?_,k4,uR⟩;have:lower (jK sc) L b=2*b+1:=by unfold lower; rw [if_neg (by rw [hq]; simp)]
    rw [this]
  ·have kH:decide (((2*b+2:Nat):Int)<(L.length:Int))=false:=by simp; omega
   refine a_ kH (a_ kH (a_ kH (a_ kH (a_ kH (a_ kH (a_ kH (a_ kH (a_ kH (a_ kH (a_ kH ?_))))))))));rw [kH];refine aT rfl ⟨?_,k2.drew,dm⟩;have:lower (jK sc) L b=2*b+1:=by unfold lower; rw [if_neg (λh=>hc h.1)]
   rw [this]
 ·rintro ⟨c',⟨⟩⟩ w3 ⟨rfl,k3,oD⟩;simp only [];generalize Kh:lower (jK sc) L b=c at *
  have g_:c<L.length:=by omega
  have hcb:c≠b:=by omega
  have dm:=oD.drew;refine ay ?_;simp only [ag,Nat.reduceAdd,Nat.add_zero];refine cT (dm.obj.cell 5) (ay ?_);refine au (dm.obj.cell 3) (cu (by omega) (by omega) (ah (x:=L.getD c 0) (by rw [Int.toNat_natCast]; exact dm.item g_) ?_));obtain ⟨y1,y2,Yx⟩:=tq.step hcb (nU g_);refine dP (az RS (zU dm hs y1 y2 tq.x1 tq.x2) λe w6 ⟨he,hw⟩=>⟨_,he,?_⟩);have Rw:nk w6 h sb ib pb sc step aK L rest vJ:=by rw [hw]; exact dm.drew
  have k6:af (IP ib pb) w w6:=by rw [hw]; exact k3.drew.drew
  rcases Bool.eq_false_or_eq_true (jK sc (L.getD c 0) x) with hq | hq
  ·rw [hq,if_pos rfl] at hu;rw [hq];refine aT rfl (ay ?_);refine au (Rw.obj.cell 3) (cu (by omega) (by omega) (ah (x:=L.getD c 0) (by rw [Int.toNat_natCast]; exact Rw.item g_) ?_));refine az BK (Rw.lay hs tq.lt y1 y2) λe w7 ⟨he,k7,hR7⟩=>⟨he,⟨_,_,_,rfl,by simpa using hL,k6.trans k7 λi _ h=>h,hR7,Yx,hu⟩,by omega⟩
  ·rw [hq,if_neg (by simp)] at hu;rw [hq];exact aX rfl (fin w6 L vJ b k6 Rw tq hu)
def kg (bf:Int->Int->Bool):Nat->List Int->List Int
 | 0,L=>L
 | k+1,L=>kg bf k (jW bf (L.getD k 0) L k)
theorem V8 (hR:nk w h sb ib pb sc step aK it rest pl) (hs:sc.length<=1048576) (hi:it.length<=1048576) (hf:FC sc.length it pl) :
  Calls Tryz.prog 168 #[.pointer (some ⟨h,3,none⟩)] w λe w'=>e=.returned (.tuple #[])/\Laid w h sb ib pb sc step aK rest (kg (jK sc) (it.length / 2) it) w':=by
 refine (I1 (some ⟨h,3,none⟩) w (zV (Laid w h sb ib pb sc step aK rest (kg (jK sc) (it.length / 2) it))) ?_).mono λe w' ⟨v,he,hv,hk⟩=>⟨by rw [he,hv],hk⟩
 unfold agF;refine ay ?_;simp only [ag,Nat.add_zero,Nat.reduceAdd];refine au (hR.obj.cell 3) ?_;have e1:IntKind.wrap .i64 (IntKind.wrap .i64 (Int.tdiv (it.length:Int) 2) - 1)=((it.length / 2:Nat):Int) - 1:=by
  have e0:IntKind.wrap .i64 (Int.tdiv (it.length:Int) 2)=((it.length / 2:Nat):Int):=by
   rw [Int.tdiv_eq_ediv_of_nonneg (by omega),IntKind.wrap_i64]; omega
  rw [e0,IntKind.wrap_i64]; omega
 rw [e1];refine bX (λs w2=>∃(k:Nat) (L vJ:List Int),s.1=(k:Int) - 1/\k<=it.length / 2/\L.length=it.length/\af (IP ib pb) w w2/\nk w2 h sb ib pb sc step aK L rest vJ/\FC sc.length L vJ/\kg (jK sc) k L=kg (jK sc) (it.length / 2) it)
  (λs _=>(s.1+1).toNat) ⟨_,it,pl,rfl,Nat.le_refl _,rfl,af.refl _ _,hR,hf,rfl⟩ ?_
 rintro ⟨b',⟨⟩⟩ w2 ⟨k,L,vJ,rfl,hk,hL,k2,iM,Fc,hu⟩;simp only [];refine aF (λbL=>?_) λaM=>?_
 ·have bL:1<=k:=by simp at bL; omega
  obtain ⟨j,rfl⟩:∃j,k=j+1:=⟨k - 1,by omega⟩
  have e2:(((j+1:Nat):Int) - 1)=(j:Int):=by omega
  rw [e2];have e3:IntKind.wrap .i64 ((j:Int) - 1)=(j:Int) - 1:=by rw [IntKind.wrap_i64]; omega
  rw [e3];refine az Ys (RV iM hs (by omega) Fc (a:=j) (by omega)) λe w3 ⟨he,k3,pl3,oD,Oi⟩=>⟨he,⟨j,_,pl3,rfl,by omega,?_,k2.trans k3 λi _ h=>h,oD,Oi,?_⟩,by omega⟩
  ·rw [rU _ _ _ _ _ rfl]; exact hL
  ·exact hu
 ·have qD:k=0:=by simp at aM; omega
  subst qD;refine ⟨rfl,k2,vJ,?_,?_⟩
  ·rw [<-hu]; exact iM
  ·rw [<-hu]; exact Fc
def small:Nat:=3110860544497550640
def amg:Nat:=6103021453049119613
def scaled:List Nat->List Nat->Prop
 | [],[]=>True
 | x :: xs,y :: ys=>(FloatKind.format .f64).mul x small=some y/\scaled xs ys
 | _,_=>False
theorem I2:∀{xs ys:List Nat},scaled xs ys->ys.length=xs.length/\∀i,i<xs.length->(FloatKind.format .f64).mul (xs.getD i 0) small=some (ys.getD i 0):=by
 intro xs;induction xs with
 | nil=>intro ys h; cases ys<;>simp_all [scaled]
 | cons x xs ih=>
  intro ys h;cases ys with
  | nil=>exact h.elim
  | cons y ys=>
   obtain ⟨h1,h2⟩:=h;obtain ⟨h3,h4⟩:=ih h2;refine ⟨by simp [h3],λi hi=>?_⟩;cases i with
   | zero=>exact h1
   | succ i=>exact h4 i (by simpa using hi)
def HF (h sb ib pb:Nat) (i:Nat):Prop:=i=h\/i=sb\/i=ib\/i=pb
def eR (w:World) (h sb ib pb:Nat) (sc:List Nat) (step aK:Nat) (rest L:List Int) (w':World):Prop:=
 af (HF h sb ib pb) w w'/\∃pl',nk w' h sb ib pb sc step aK L rest pl'/\FC sc.length L pl'
theorem KF (hR:nk w h sb ib pb sc step aK it rest pl) (hs:sc.length<=1048576) (hi:it.length<=1048576) (hf:FC sc.length it pl) {vK:List Nat} {zY:Nat}
  (h1:scaled sc vK) (h2:(FloatKind.format .f64).mul step small=some zY) :
  Calls Tryz.prog 132 #[.pointer (some ⟨h,0,none⟩)] w λe w'=>e=.returned (.tuple #[])/\eR w h sb ib pb vK zY aK rest (kg (jK vK) (it.length / 2) it) w':=by
 refine (IM (some ⟨h,0,none⟩) w (zV (eR w h sb ib pb vK zY aK rest (kg (jK vK) (it.length / 2) it))) ?_).mono λe w' ⟨v,he,hv,hk⟩=>⟨by rw [he,hv],hk⟩
 unfold ago;obtain ⟨hl,hg⟩:=I2 h1;refine ay ?_;simp only [ag,Nat.add_zero,Nat.reduceAdd,Nat.zero_add];refine au (hR.obj.cell 0) ?_;refine bX (λs w2=>∃k:Nat,s.1=k/\k<=sc.length/\af (HF h sb ib pb) w w2/\nk w2 h sb ib pb (vK.take k++sc.drop k) step aK it rest pl)
  (λs _=>(sc.length - s.1).toNat) ⟨0,rfl,Nat.zero_le _,af.refl _ _,by simpa using hR⟩ ?_
 rintro ⟨b',⟨⟩⟩ w2 ⟨k,rfl,hk,k2,iM⟩;simp only [];have hlen:(vK.take k++sc.drop k).length=sc.length:=by simp; omega
 refine aF (λaM=>?_) λbL=>?_
 ·have aM:k<sc.length:=by simpa using aM
  have dm:=iM.drew;have kd:=k2.drew;generalize w2.drew=w3 at *
  refine ay (au (dm.obj.cell 0) (ay (au (dm.obj.cell 0) (cu (by omega) (by rw [hlen]; omega) ?_))));have hxk:(vK.take k++sc.drop k)[k]?=some (sc.getD k 0):=by
   rw [List.getElem?_append_right (by simp; omega),List.getD_eq_getElem?_getD,List.getElem?_drop];simp only [List.length_take];rw [show min k vK.length=k by omega,Nat.sub_self,Nat.add_zero,List.getElem?_eq_getElem aM]; rfl
  refine dY (x:=sc.getD k 0) (by rw [Int.toNat_natCast,dm.gP.cell,List.getElem?_map,hxk]; rfl) ⟨_,hg k aM,?_⟩;refine cu (by omega) (by rw [hlen]; omega) ?_;simp only [ag,Nat.add_zero,Int.toNat_natCast];refine aG dm.gP (by rw [List.length_map,hlen]; exact aM) rfl λw4 h4 k4 _=>?_;have e1:IntKind.wrap .i64 ((k:Int)+1)=((k+1:Nat):Int):=by rw [IntKind.wrap_i64]; omega
  rw [e1];have es:((vK.take k++sc.drop k).set k (vK.getD k 0))=vK.take (k+1)++sc.drop (k+1):=by
   rw [List.set_append_right _ _ (by simp; omega),List.length_take,show min k vK.length=k by omega,Nat.sub_self,List.take_add_one,List.append_assoc];congr 1;rw [List.drop_eq_getElem_cons aM,List.set_cons_zero,List.getD_eq_getElem?_getD,List.getElem?_eq_getElem (by omega)];rfl
  rw [<-List.map_set,es] at h4;have Rh:(vK.take (k+1)++sc.drop (k+1)).length=sc.length:=by simp; omega
  refine ⟨⟨k+1,rfl,by omega,kd.thenS k4 (by simp [HF]),?_⟩,by omega⟩;refine ⟨?_,h4,dm.items.aJ k4 (Ne.symm hR.si),dm.jE.aJ k4 (Ne.symm hR.sp),by rw [Rh]; exact hR.len,hR.hs,hR.hi,hR.hp,hR.si,hR.sp,hR.ip⟩;have:=dm.obj.aJ k4 hR.hs;rw [hlen] at this;rw [Rh];exact this
 ·have bL:k=sc.length:=by simp at bL; omega
  subst bL;have e2:vK.take sc.length++sc.drop sc.length=vK:=by rw [<-hl]; simp; omega
  rw [e2] at iM;refine ay ?_;refine dY (iM.obj.cell 1) ⟨_,h2,ay ?_⟩;refine aG iM.obj (by simp) rfl λw3 h3 k3 _=>ay ?_;have oD:nk w3 h sb ib pb vK zY aK it rest pl:=
   ⟨h3,iM.gP.aJ k3 (Ne.symm hR.hs),iM.items.aJ k3 (Ne.symm hR.hi),iM.jE.aJ k3 (Ne.symm hR.hp),iM.len,hR.hs,hR.hi,hR.hp,hR.si,hR.sp,hR.ip⟩
  refine az agG (V8 oD (by omega) hi (by rw [hl]; exact hf)) λe w4 ⟨he,k4,pl4,uR,LU⟩=>⟨he,rfl,?_,pl4,uR,LU⟩
  exact (k2.thenS k3 (by simp [HF])).trans k4 λi _ h=>by rcases h with h | h<;>simp [HF,h]
theorem Laid.M5 {L:List Int} {w':World} (hl:Laid w h sb ib pb sc step aK rest L w'):eR w h sb ib pb sc step aK rest L w':=
 ⟨hl.1.mono λi _ h=>by rcases h with h | h<;>simp [HF,h],hl.2⟩
end
end eR
end Go.Proofs.YtagkgfmddflodaaGreat

