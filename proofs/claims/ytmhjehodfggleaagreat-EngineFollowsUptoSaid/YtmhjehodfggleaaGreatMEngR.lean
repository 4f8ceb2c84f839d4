/- What a clash teaches, in plain: what is shrunk; the clause follows by unit clauses. -/

import Derived.Test.YtmhjehodfggleaaGreatMEng41
import Derived.Test.YtmhjehodfggleaaGreatMTTrail
import Derived.Test.YtmhjehodfggleaaGreatMEng21
import Derived.Test.YtmhjehodfggleaaGreatProg
set_option linter.unusedVariables false
set_option linter.unusedSimpArgs false
set_option linter.unusedSectionVars false
set_option maxRecDepth 100000
namespace Go.Proofs.YtmhjehodfggleaaGreat.Learn
open Go Go.Proofs.YtmhjehodfggleaaGreat.Vc Go.Proofs.YtmhjehodfggleaaGreat.T
open Go.Proofs.YtmhjehodfggleaaGreat.Apart (getE)
open Go.Proofs.YtmhjehodfggleaaGreat.Lits (Td Srt)
open Go.Proofs.YtmhjehodfggleaaGreat.Eng (Der Clash)
section
variable {es:List En} {cs:List Int}
theorem shr_cons (hF:Fm es) {o:Int} {L:List Int} (hnd:(o :: L).Nodup) (hL:∀l∈L,fl l=true∧0<lvl es l):∃s',shr es (o :: L) (o :: L).length=o :: s'∧s'.Sublist L∧∀l∈L,l∉s'→∃(a:Nat) (y:En),es[a]?=some y∧y.lit=neg l∧Cov es (o :: L) a:=by
 have key:∀i,i≤L.length→∃s',shr es (o :: L) (i+1)=o :: s'∧s'.Sublist (L.take i)∧∀l∈L.take i,l∉s'→∃(a:Nat) (y:En),es[a]?=some y∧y.lit=neg l∧Cov es (o :: L) a:=by
  intro i
  induction i with
  | zero=>
   intro _
   refine ⟨[],?_,by simp,fun l hl=>by simp at hl⟩
   rw [shr_yes (l:=o) rfl ⟨by simp,Or.inl rfl⟩]
   rfl
  | succ i ih=>
   intro hi
   obtain ⟨s',h1,h2,h3⟩:=ih (by omega)
   obtain ⟨l,hl⟩:=getE (show i<L.length by omega)
   have hl':(o :: L)[i+1]?=some l:=hl
   have hlm:=List.mem_of_getElem? hl
   obtain ⟨hfl,hpos⟩:=hL l hlm
   obtain ⟨a,y,hy,hyl,hyv⟩:=lvl_ent hF hpos
   have hno:l∉(o :: L).take (i+1):=by
    have:=hnd
    rw [←List.take_append_drop (i+1) (o :: L),List.nodup_append] at this
    intro hm
    refine this.2.2 l hm l ?_ rfl
    have e:(o :: L).drop (i+1)=l :: (o :: L).drop (i+2):=by
     rw [List.drop_eq_getElem_cons (by simp; omega)]
     congr 1
     have:=List.getElem?_eq_some_iff.1 hl'
     exact this.2
    rw [e]; simp
   have hts:L.take (i+1)=L.take i++[l]:=by rw [List.take_add_one,hl]; rfl
   by_cases hk:Kp es (o :: L) (i+1) l
   ·refine ⟨s'++[l],by rw [shr_yes hl' hk,h1]; rfl,by rw [hts]; exact h2.append (List.Sublist.refl _),fun z hz hzn=>?_⟩
    rw [hts,List.mem_append] at hz
    rw [List.mem_append,not_or] at hzn
    exact h3 z (hz.resolve_right hzn.2) hzn.1
   ·refine ⟨s',by rw [shr_no hl' hk,h1],by rw [hts]; exact h2.trans (List.sublist_append_left _ _),fun z hz hzn=>?_⟩
    rw [hts,List.mem_append] at hz
    rcases hz with hz | hz
    ·exact h3 z hz hzn
    ·rw [List.mem_singleton.1 hz]
     refine ⟨a,y,hy,hyl,Classical.byContradiction fun hc=>hk ((kp_iff hF hfl hy hyl (by omega) hno).2 ⟨by omega,hc⟩)⟩
 obtain ⟨s',h1,h2,h3⟩:=key L.length (Nat.le_refl _)
 rw [List.take_length] at h2 h3
 exact ⟨s',h1,h2,h3⟩
def Lev1 (es:List En):Prop:=∀(i:Nat) (x:En),es[i]?=some x→x.rs≠[]→0<x.lev→∃r∈x.rs,r≠x.lit∧∃(j:Nat) (y:En),es[j]?=some y∧y.lit=neg r∧y.lev=x.lev
theorem back_stays (hF:Fm es) (hLv:Lev1 es) {back:Int} {o:Int} {L:List Int} {top:Int} (hA:Ans1 es cs back o L top) {s':List Int} (h:∀l∈L,l∉s'→∃(a:Nat) (y:En),es[a]?=some y∧y.lit=neg l∧Cov es (o :: L) a) (hne:L≠[]):0<back∧back<top∧∃l∈s',lvl es l=back:=by
 obtain ⟨l0,hl0⟩:=List.exists_mem_of_ne_nil _ hne
 have h1:=hA.mb.1 l0 hl0
 have h2:=(hA.ml l0 hl0).2.1
 have hb:0<back:=by omega
 obtain ⟨l1,hl1,hlv⟩:=hA.mb.2.2.resolve_left (by omega)
 have hbt:back<top:=by rw [←hlv]; exact (hA.ml l1 hl1).2.2.1
 refine ⟨hb,hbt,Classical.byContradiction fun hn=>?_⟩
 have hdrop:∀l∈L,lvl es l=back→∃(a:Nat) (y:En),es[a]?=some y∧y.lit=neg l∧Cov es (o :: L) a:=fun l hl hv=>h l hl fun hs=>hn ⟨l,hs,hv⟩
 have key:∀(n a:Nat) (y:En),a<n→es[a]?=some y→y.lev=back→(neg y.lit∈L∨Cov es (o :: L) a)→False:=by
  intro n
  induction n with
  | zero=>intro a y h; omega
  | succ n ih=>
   intro a y han hy hyv hc
   have hfy:=(hF a y hy).1
   have hcov:Cov es (o :: L) a:=by
    rcases hc with hc | hc
    ·obtain ⟨a',y',g1,g2,g3⟩:=hdrop _ hc (by rw [lvl_of hF hy (neg_neg hfy).symm]; exact hyv)
     rw [neg_neg hfy] at g2
     rw [lit_one hF hy g1 g2.symm]; exact g3
    ·exact hc
   cases hcov with
   | mk hx hr hh=>
    rw [hy] at hx; injection hx with hx; subst hx
    obtain ⟨r,hr1,hr2,j,z,hz,hzl,hzv⟩:=hLv a y hy hr (by omega)
    obtain ⟨j',z',g1,g2,g3⟩:=rs_ahead hF hy hr1 hr2
    have hj:=lit_one hF hz g2 (hzl.trans g3.symm)
    have hfr:fl r=true:=(rs_ok hF y (List.mem_of_getElem? hy) r hr1 hr2).1
    have hnr:neg z.lit=r:=by rw [hzl,neg_neg hfr]
    by_cases hro:r∈o :: L
    ·rcases List.mem_cons.1 hro with e | hrL
     ·have:=lvl_of hF hz hzl
      rw [e,hA.lo] at this; omega
     ·exact ih j z (by omega) hz (by omega) (Or.inl (by rw [hnr]; exact hrL))
    ·exact ih j z (by omega) hz (by omega) (Or.inr (hh r hr1 hr2 j z hz hzl (by omega) hro))
 obtain ⟨a,y,g1,g2,g3⟩:=hdrop l1 hl1 hlv
 exact key (a+1) a y (by omega) g1 (by rw [←lvl_of hF g1 g2]; exact hlv) (Or.inr g3)
def RsC (C:List (List Int)) (es:List En):Prop:=∀x∈es,x.rs≠[]→∃c∈C,∀z,z∈c↔z∈x.rs
variable {C:List (List Int)} {K:List Int}
theorem der_ent (hF:Fm es) (hC:RsC C es) {i:Nat} {x:En} (hx:es[i]?=some x) (hr:x.rs≠[]) (h:∀(j:Nat) (y:En),j<i→es[j]?=some y→(∃r∈x.rs,r≠x.lit∧y.lit=neg r)→Der C K y.lit):Der C K x.lit:=by
 obtain ⟨c,hc,hs⟩:=hC x (List.mem_of_getElem? hx) hr
 have hxr:=((hF i x hx).2.2.2 hr).2.1
 refine .unit hc ((hs _).2 hxr) fun z hz hne=>?_
 have hz':=(hs z).1 hz
 obtain ⟨j,y,h1,h2,h3⟩:=rs_ahead hF hx hz' hne
 have hfz:=(rs_ok hF x (List.mem_of_getElem? hx) z hz' hne).1
 have:=h j y h1 h2 ⟨z,hz',hne,h3⟩
 rwa [h3,Eng.neg_eq hfz] at this
theorem der_zero (hF:Fm es) (hn:es.length≤1048576) (hC:RsC C es) (h0:∀x∈es,x.lev=0→x.rs≠[]):∀(n i:Nat) (x:En),i<n→es[i]?=some x→x.lev=0→Der C K x.lit:=by
 intro n
 induction n with
 | zero=>intro i x h; omega
 | succ n ih=>
  intro i x hi hx hl
  refine der_ent hF hC hx (h0 x (List.mem_of_getElem? hx) hl) fun j y hj hy _=>ih j y (by omega) hy ?_
  have h1:=lev_mono hF hn hx hy (Nat.le_of_lt hj)
  have h2:=(lev_run hF hn j y hy).1
  omega
theorem fals_clash (hC:∃c∈C,∀z,z∈c↔z∈cs) (h:∀l∈cs,Der C K (-l)):Clash C K:=by
 obtain ⟨c,hc,hs⟩:=hC
 exact ⟨c,hc,fun x hx=>h x ((hs x).1 hx)⟩
theorem rs_top (hF:Fm es) (hn:es.length≤1048576) {top:Int} {S:Int→Prop} {i:Nat} {x:En} (h0:0<top) (hS:FalsP es S) (h:Gt es top S i x) (ha:¬Alone es top S x):x.rs≠[]:=by
 intro hr
 have:∃l,S l∧lvl es l=top∧l≠neg x.lit:=by
  apply Classical.byContradiction
  intro hn
  exact ha fun l hl hlv=>Classical.byContradiction fun hne=>hn ⟨l,hl,hlv,hne⟩
 obtain ⟨l,hl,hlv,hne⟩:=this
 obtain ⟨hfl,y,hy,hyl⟩:=hS l hl
 obtain ⟨j,hj⟩:=mem_ix hy
 have hyv:=lvl_of hF hj hyl
 have hny:neg y.lit=l:=by rw [hyl,neg_neg hfl]
 have hji:j<i:=by
  rcases Nat.lt_trichotomy j i with q | q | q
  ·exact q
  ·subst q
   have:=h.at'
   rw [hj] at this; injection this with this; rw [←this] at hne; exact absurd hny.symm hne
  ·exact absurd (hny ▸ hl) (h.last j y q hj (by rw [←hyv,hlv]))
 obtain ⟨z,hz⟩:=getE (show i - 1<es.length by have:=(List.getElem?_eq_some_iff.1 h.at').1; omega)
 have hl2:=(hF i x h.at').2.2.1
 have e:i=i - 1+1:=by omega
 have e2:lastLev (es.take i)=z.lev:=by rw [e]; exact lastLev_snoc hz
 unfold Lev at hl2
 rw [e2] at hl2
 have m1:=lev_mono hF hn hz hj (by omega)
 have m2:=lev_mono hF hn h.at' hz (by omega)
 have h3:=h.lev
 rcases hl2.2 with q | q
 ·omega
 ·have:=q.2 hr; omega
theorem lrn_back (hF:Fm es) (hn:es.length≤1048576) (hC:RsC C es) {top:Int} (h0:0<top) {S F:Int→Prop} {o:Int} (h:Lrn es top S o F):FalsP es S→(∀l,F l→Der C K (-l))→∀l,S l→Der C K (-l):=by
 induction h with
 | done h ha=>exact fun _ hF=>hF
 | @step S F i x o h ha hl ih=>
  intro hS hD l hl'
  have hxm:=List.mem_of_getElem? h.at'
  have hN:=ih (nxt_fals hF hS hxm) hD
  have hr:=rs_top hF hn h0 hS h ha
  by_cases hlx:l=neg x.lit
  ·subst hlx
   have hfx:=(hF i x h.at').1
   obtain ⟨c,hc,hs⟩:=hC x hxm hr
   have hxr:=((hF i x h.at').2.2.2 hr).2.1
   have:=Der.unit (K:=K) hc ((hs _).2 hxr) fun z hz hne=>hN z (Or.inr ⟨(hs z).1 hz,hne⟩)
   rw [Eng.neg_eq hfx,Int.neg_neg]; exact this
  ·exact hN l (Or.inl ⟨hl',hlx⟩)
theorem lspec_rup (hF:Fm es) (hn:es.length≤1048576) (hC:RsC C es) (h0:∀x∈es,x.lev=0→x.rs≠[]) (hcc:∃c∈C,∀z,z∈c↔z∈cs) (hcf:cs.all fl=true) (hf:Fals es cs) {back:Int} {cl:List Int} (h:LSpec es cs 0 back cl) :
  Clash C ((shr es cl cl.length).map fun x=>-x):=by
 have hS:FalsP es (·∈cs):=fun l hl=>⟨List.all_eq_true.1 hcf l hl,hf l hl⟩
 have hans:=lspec_ans hF hn hcf hf h
 obtain ⟨_,h⟩:=h
 rcases h with ⟨h,_⟩ | ⟨_,top,hM,h⟩
 ·exact absurd rfl h
 rcases h with ⟨h1,rfl,h3⟩ | ⟨hpos,o,F,L,hL,hT,rfl,hb⟩
 ·refine fals_clash hcc fun l hl=>?_
  obtain ⟨hfl,y,hy,hyl⟩:=hS l hl
  obtain ⟨j,hj⟩:=mem_ix hy
  have h1:=hM.1 l hl
  have h2':=(lev_run hF hn j y hj).1
  have:=lvl_of hF hj hyl
  have:=der_zero (K:=(shr es [] ([]:List Int).length).map fun x=>-x) hF hn hC h0 (j+1) j y (by omega) hj (by omega)
  rwa [hyl,Eng.neg_eq hfl] at this
 ·obtain ⟨o',L',top',e,hA⟩:=hans.resolve_left fun h=>by cases h.1
  injection e with e1 e2; subst e1; subst e2
  obtain ⟨s',hs,hsub,hdr⟩:=shr_cons hF (List.nodup_cons.2 ⟨hA.no,hA.nd⟩) (L:=L) (o:=o) fun l hl=>⟨(hA.ml l hl).1,(hA.ml l hl).2.1⟩
  rw [hs]
  -- what is covered follows
  have key:∀(n i:Nat) (x:En),i<n→es[i]?=some x→(x.lev=0∨neg x.lit∈o :: L∨Cov es (o :: L) i)→Der C ((o :: s').map fun x=>-x) x.lit:=by
   intro n
   induction n with
   | zero=>intro i x h; omega
   | succ n ih=>
    intro i x hi hx hc
    have hfx:=(hF i x hx).1
    have hcov:Cov es (o :: L) i→Der C ((o :: s').map fun x=>-x) x.lit:=fun hcov=>by
     cases hcov with
     | mk hx' hr hh=>
      rw [hx] at hx'; injection hx' with hx'; subst hx'
      refine der_ent hF hC hx hr fun j y hj hy ⟨r,hr1,hr2,hyr⟩=>ih j y (by omega) hy ?_
      by_cases hy0:y.lev=0
      ·exact Or.inl hy0
      ·have hfr:=(rs_ok hF x (List.mem_of_getElem? hx) r hr1 hr2).1
       by_cases hro:r∈o :: L
       ·exact Or.inr (Or.inl (by rw [hyr,neg_neg hfr]; exact hro))
       ·have:=(lev_run hF hn j y hy).1
        exact Or.inr (Or.inr (hh r hr1 hr2 j y hy hyr (by omega) hro))
    rcases hc with hc | hc | hc
    ·exact der_zero hF hn hC h0 (i+1) i x (by omega) hx hc
    ·have hin:neg x.lit∈o :: s'→Der C ((o :: s').map fun x=>-x) x.lit:=fun hm=>.fact (List.mem_map.2 ⟨_,hm,by rw [Eng.neg_eq hfx]; omega⟩)
     rcases List.mem_cons.1 hc with e | hL'
     ·exact hin (by rw [e]; simp)
     ·by_cases hs':neg x.lit∈s'
      ·exact hin (List.mem_cons_of_mem _ hs')
      ·obtain ⟨a,y,g1,g2,g3⟩:=hdr _ hL' hs'
       rw [neg_neg hfx] at g2
       rw [←lit_one hF hx g1 g2.symm] at g3
       exact hcov g3
    ·exact hcov hc
  have hFs:=(hL.sub hF (rs_ok hF) hS).1
  have hFd:∀l,F l→Der C ((o :: s').map fun x=>-x) (-l):=fun l hl=>by
   obtain ⟨hfl,y,hy,hyl⟩:=hFs l hl
   obtain ⟨j,hj⟩:=mem_ix hy
   have hd:=key (j+1) j y (by omega) hj (by
    by_cases hlo:l=o
    ·exact Or.inr (Or.inl (by rw [hyl,neg_neg hfl,hlo]; simp))
    ·by_cases hl0:0<lvl es l
     ·exact Or.inr (Or.inl (by rw [hyl,neg_neg hfl]; exact List.mem_cons_of_mem _ ((hT.mem l).2 ⟨⟨hl,hlo,hl0⟩,hfl⟩)))
     ·have:=lvl_of hF hj hyl
      have:=(lev_run hF hn j y hj).1
      exact Or.inl (by omega))
   rwa [hyl,Eng.neg_eq hfl] at hd
  exact fals_clash hcc (lrn_back hF hn hC hpos hL hS hFd)
end
end Go.Proofs.YtmhjehodfggleaaGreat.Learn

/- An Engine in plain: a reason above level 0 has another literal of its level; the answer to a clash. -/

set_option linter.unusedVariables false
set_option linter.unusedSimpArgs false
set_option linter.unusedSectionVars false
set_option maxRecDepth 100000
namespace Go.Proofs.YtmhjehodfggleaaGreat.Eng
open Go Go.Proofs.YtmhjehodfggleaaGreat.Vc Go.Proofs.YtmhjehodfggleaaGreat.T
open Go.Proofs.YtmhjehodfggleaaGreat.Trail (E St ownB upto freeA)
open Go.Proofs.YtmhjehodfggleaaGreat.Apart (getE)
def Lz (S:ES):Prop:=∀e∈S.R,0≤e.rs→0<e.lv→∃(k:Nat) (d:Hd),S.H[k]?=some d∧d.at_=e.rs∧∃x∈d.ls,x≠e.lit∧∃f∈S.R,f.lit=-x∧f.lv=e.lv
theorem Lz.to {S S':ES} (h:Lz S) (hR:S'.R=S.R) (hH:∀(k:Nat) (d:Hd),S.H[k]?=some d→∃d',S'.H[k]?=some d'∧d'.ls=d.ls∧d'.at_=d.at_):Lz S':=fun e he h0 hl=>by
 rw [hR] at he ⊢
 obtain ⟨k,d,h1,h2,x,hx,r⟩:=h e he h0 hl
 obtain ⟨d',g1,g2,g3⟩:=hH k d h1
 exact ⟨k,d',g1,g3.trans h2,x,by rw [g2]; exact hx,r⟩
theorem Lz.put {S:ES} (h:Lz S) {l r:Int} (hn:0≤r→S.L≠[]→∃(k:Nat) (d:Hd),S.H[k]?=some d∧d.at_=r∧∃x∈d.ls,x≠l∧∃f∈S.R,f.lit=-x∧f.lv=S.L.length):Lz (putS S l r):=fun e he h0 hl=>by
 rcases List.mem_append.1 (show e∈S.R++[(⟨l,S.L.length,r⟩:E)] from he) with he | he
 ·obtain ⟨k,d,h1,h2,x,hx,hne,f,hf,q⟩:=h e he h0 hl
  exact ⟨k,d,h1,h2,x,hx,hne,f,List.mem_append_left _ hf,q⟩
 ·rw [List.mem_singleton] at he; subst he
  obtain ⟨k,d,h1,h2,x,hx,hne,f,hf,q⟩:=hn h0 (fun e=>by rw [e] at hl; exact absurd (show (0:Int)<((0:Nat):Int) from hl) (by decide))
  exact ⟨k,d,h1,h2,x,hx,hne,f,List.mem_append_left _ hf,q⟩
theorem Lz.move {S:ES} (h:Lz S) {k:Nat} {d:Hd} (hd:S.H[k]?=some d) (l x:Int):Lz (moveS S k d l x):=by
 refine h.to rfl fun j d1 hj=>?_
 show ∃d',(S.H.set k {d with e0:=other d l,e1:=x})[j]?=some d'∧_
 rw [List.getElem?_set]
 by_cases hkj:k=j
 ·subst hkj
  rw [hd] at hj; injection hj with hj; subst hj
  rw [if_pos rfl,if_pos (List.getElem?_eq_some_iff.1 hd).1]
  exact ⟨_,rfl,rfl,rfl⟩
 ·rw [if_neg hkj]; exact ⟨d1,hj,rfl,rfl⟩
def At1 (S:ES) (l:Int):Prop:=∃e∈S.R,e.lit=-l∧e.lv=S.L.length
theorem Lz.vstep {l:Int} {S:ES} {k:Nat} {todo stay:List Nat} {ok:Bool} (hv:VI l S (k :: todo) stay) (h:Lz S) (hl:At1 S l):Lz (vstep l (S,stay,ok) k).1∧At1 (vstep l (S,stay,ok) k).1 l:=by
 obtain ⟨d,hd,h0,h1,hne,hw⟩:=hv.td k (by simp)
 obtain ⟨o1,o2,o3,o4⟩:=other_of hw hne
 have hll:l∈d.ls:=by rcases hw with hw | hw<;>rw [hw]; exact h0; exact h1
 have hid:∀(k:Nat) (d:Hd),S.H[k]?=some d→∃d',S.H[k]?=some d'∧d'.ls=d.ls∧d'.at_=d.at_:=fun k d hk=>⟨d,hk,rfl,rfl⟩
 unfold Eng.vstep
 dsimp only
 rw [hd]
 dsimp only
 split
 ·exact ⟨h,hl⟩
 ·split
  ·exact ⟨h,hl⟩
  ·split
   ·exact ⟨h.move hd _ _,hl⟩
   ·split
    ·exact ⟨h.to rfl hid,hl⟩
    ·split
     ·obtain ⟨e,he,h2,h3⟩:=hl
      exact ⟨h.put fun _ _=>⟨k,d,hd,rfl,l,hll,Ne.symm o2,e,he,h2,h3⟩,e,List.mem_append_left _ he,h2,h3⟩
     ·exact ⟨h,hl⟩
theorem Lz.fold {l:Int} : ∀(todo:List Nat) (S:ES) (stay:List Nat) (ok:Bool),VI l S todo stay→Lz S→At1 S l→Lz (todo.foldl (Eng.vstep l) (S,stay,ok)).1
 | [],S,stay,ok,hv,h,_=>h
 | k :: todo,S,stay,ok,hv,h,hl=>by
  obtain ⟨a,b⟩:=Lz.vstep (ok:=ok) hv h hl
  exact Lz.fold todo _ _ (Eng.vstep l (S,stay,ok) k).2.2 hv.step a b
theorem Lz.visit {S:ES} (hw:WfE S) (h:Lz S) {l:Int} (hl:Wi S.nv l) (ha:At1 S l):Lz (visit S l).1:=
 (Lz.fold (listAt S (idxN l)) {S with lists:=S.lists.set (idxN l) []} [] true (VI.start hw hl) (h.to rfl fun k d hk=>⟨d,hk,rfl,rfl⟩) ha).to rfl fun k d hk=>⟨d,hk,rfl,rfl⟩
theorem Lz.single {S:ES} (h:Lz S) (hL:S.L=[]) (d:Hd):Lz (single S d).1:=by
 unfold Eng.single
 split
 ·split
  ·exact h
  ·exact h.put fun _ hn=>absurd hL hn
 ·exact h.to rfl fun k d hk=>⟨d,hk,rfl,rfl⟩
theorem Lz.sfold:∀(ids:List Nat) (acc:ES×Bool),Lz acc.1→acc.1.L=[]→Lz (ids.foldl sstep acc).1
 | [],acc,h,_=>h
 | k :: ids,acc,h,hL=>by
  refine Lz.sfold ids (sstep acc k) ?_ ((fr_sstep acc k).L.trans hL)
  unfold sstep
  split
  ·exact h
  ·split
   ·exact h
   ·exact h.single hL _
theorem Lz.spreadN:∀(n:Nat) (S:ES),WfE S→StE S→Iw S S.head→Lz S→Lz (spreadN n S).1
 | 0,S,hw,hs,hi,h=>h
 | n+1,S,hw,hs,hi,h=>by
  unfold Eng.spreadN
  cases he:S.R[S.head]? with
  | none=>exact h
  | some e=>
   dsimp only
   have hem:=List.mem_of_getElem? he
   have hwi:Wi S.nv (-e.lit):=wi_neg (own_wi (hs.own e hem))
   have hw':WfE {S with head:=S.head+1}:=hw.self (S.head+1) S.rest S.clash S.dead S.bad
   obtain ⟨v1,v2⟩:=Iw.visit hw hs hi he
   have hf:=fr_visit {S with head:=S.head+1} (-e.lit)
   have hhd:(Eng.visit {S with head:=S.head+1} (-e.lit)).1.head=S.head+1:=hf.head
   have h3:Lz (Eng.visit {S with head:=S.head+1} (-e.lit)).1:=Lz.visit (S:={S with head:=S.head+1}) hw' (h.to rfl fun k d hk=>⟨d,hk,rfl,rfl⟩) hwi ⟨e,hem,by omega,hi.lv S.head e (Nat.le_refl _) he⟩
   split
   ·rename_i ho
    exact Lz.spreadN n _ (hw'.visit hwi) (st_visit (S:={S with head:=S.head+1}) hw' hs hwi) (by rw [hhd]; exact v1 ho) h3
   ·exact h3
theorem Lz.spread {S:ES} (hz:Iz S) (h:Lz S):Lz (spread S).1:=by
 by_cases h0:(S.dead || S.clash)=true
 ·have:Eng.spread S=(S,false):=by unfold Eng.spread; rw [if_pos h0]
  rw [this]; exact h
 have hd:S.dead=false:=by cases h1:S.dead<;>simp_all
 have hc:S.clash=false:=by cases h1:S.clash<;>simp_all
 obtain ⟨q,hq,hq2⟩:=hz.iw
 rw [hq2 hc hd] at hq
 have hsh:WfE (shorts S).1∧StE (shorts S).1∧((shorts S).2=true→Iw (shorts S).1 (shorts S).1.head)∧Lz (shorts S).1:=by
  unfold shorts
  split
  ·rename_i hL
   have hL':S.L=[]:=List.eq_nil_of_length_eq_zero hL
   have h1:=sfold_inv S.short (S,true) hz.toWfE hz.st
   obtain ⟨a,b,c⟩:=sfold_iw (q:=S.head) S.short (S,true) hz.toWfE hz.st hL' rfl hq hz.sh (fun k hk d hd=>⟨hz.s1 k hk d hd,hz.sg k hk d hd⟩)
   have hf:=fr_sfold S.short (S,true)
   exact ⟨h1.1,h1.2,fun _=>by rw [hf.head]; exact a,Lz.sfold _ _ h hL'⟩
  ·exact ⟨hz.toWfE,hz.st,fun _=>hq,h⟩
 obtain ⟨a1,a2,a3,a4⟩:=hsh
 unfold Eng.spread
 rw [if_neg h0]
 dsimp only
 split
 ·rename_i o1
  exact (Lz.spreadN S.nv _ a1 a2 (a3 o1) a4).to rfl fun k d hk=>⟨d,hk,rfl,rfl⟩
 ·exact a4.to rfl fun k d hk=>⟨d,hk,rfl,rfl⟩
theorem Lz.dec {S:ES} (h:Lz S) (l:Int):Lz (decS S l):=by
 unfold decS
 split
 ·intro e he h0 hl
  rcases List.mem_append.1 (show e∈S.R++[(⟨l,(S.L.length+1:Nat),-1⟩:E)] from he) with he | he
  ·obtain ⟨k,d,h1,h2,x,hx,hne,f,hf,q⟩:=h e he h0 hl
   exact ⟨k,d,h1,h2,x,hx,hne,f,List.mem_append_left _ hf,q⟩
  ·rw [List.mem_singleton] at he; subst he
   exact absurd h0 (show ¬(0:Int)≤-1 by decide)
 ·exact h
theorem Lz.cut {S:ES} (h:Lz S) (k:Int):Lz (cutS S k):=fun e he h0 hl=>by
 obtain ⟨he,hk⟩:=upto_mem.1 (show e∈upto k S.R from he)
 obtain ⟨j,d,h1,h2,x,hx,hne,f,hf,q1,q2⟩:=h e he h0 hl
 exact ⟨j,d,h1,h2,x,hx,hne,f,upto_mem.2 ⟨hf,by omega⟩,q1,q2⟩
theorem Lz.restart {S:ES} (h:Lz S):Lz (restart S).2:=by
 unfold Eng.restart
 split
 ·exact h
 ·exact (h.cut 0).to rfl fun k d hk=>⟨d,hk,rfl,rfl⟩
theorem Lz.forget {S:ES} (h:Lz S) (i:Int):Lz (forget S i).2:=by
 unfold Eng.forget
 split
 ·exact h
 ·split
  ·exact h
  ·split
   ·exact h
   ·rename_i k hk
    split
    ·exact h
    ·rename_i d hd
     split
     ·exact h
     ·refine h.to rfl fun j d1 hj=>?_
      show ∃d',(S.H.set k {d with gone:=true})[j]?=some d'∧d'.ls=d1.ls∧d'.at_=d1.at_
      rw [List.getElem?_set]
      by_cases hkj:k=j
      ·subst hkj
       rw [hd] at hj; injection hj with hj; subst hj
       rw [if_pos rfl,if_pos (List.getElem?_eq_some_iff.1 hd).1]
       exact ⟨_,rfl,rfl,rfl⟩
      ·rw [if_neg hkj]; exact ⟨d1,hj,rfl,rfl⟩
end Go.Proofs.YtmhjehodfggleaaGreat.Eng

/- An Engine in plain: the answer to a clash, and what it leaves. -/

set_option linter.unusedVariables false
set_option linter.unusedSimpArgs false
set_option linter.unusedSectionVars false
set_option maxRecDepth 100000
namespace Go.Proofs.YtmhjehodfggleaaGreat.Eng
open Go Go.Proofs.YtmhjehodfggleaaGreat.Vc Go.Proofs.YtmhjehodfggleaaGreat.T
open Go.Proofs.YtmhjehodfggleaaGreat.Trail (E St ownB upto freeA)
open Go.Proofs.YtmhjehodfggleaaGreat.Apart (getE)
open Go.Proofs.YtmhjehodfggleaaGreat.Lits (fl fl_iff)
open Go.Proofs.YtmhjehodfggleaaGreat.Learn (En Fm LSpec Ans1 lvl Fals Mx shr lspec_ex lspec_ans shr_cons back_stays Lev1 Askd lastLev RsC lspec_rup)
theorem fl_l (l:Int):Learn.fl l=fl l:=rfl
theorem entS_len (S:ES):(entS S).length=S.R.length:=by unfold entS; rw [List.length_map]
theorem entS_mem {S:ES} {y:En} : y∈entS S↔∃e∈S.R,entE S e=y:=by unfold entS; exact List.mem_map
theorem Cl.conf {S:ES} (hp:Pl S) (h:Cl S):∃(k:Nat) (d:Hd),S.H[k]?=some d∧d.gone=false∧(∀x,x∈arGet S.ar S.bad↔x∈d.ls)∧(∀x∈d.ls,∃e∈S.R,e.lit=-x)∧(S.L=[]∨∃x∈d.ls,∃e∈S.R,e.lit=-x∧e.lv=S.L.length):=by
 obtain ⟨k,d,h1,h2,h3,h4,h5⟩:=h
 exact ⟨k,d,h1,h2,by rw [←h3]; exact hp.get h1 h2,h4,h5⟩
structure Cf (S:ES):Prop where
 fm:Fm (entS S)
 ln:(entS S).length≤1048576
 cf:(arGet S.ar S.bad).all Learn.fl=true
 fa:Fals (entS S) (arGet S.ar S.bad)
theorem Iz.cf {S:ES} (h:Iz S) (hc:S.clash=true):Cf S:=by
 obtain ⟨k,d,h1,h2,h3,h4,h5⟩:=(h.kl hc).2.conf h.pl
 have hf:∀x∈d.ls,fl x=true:=fun x hx=>wi_fl h.nv ((h.hl k d h1).1 x hx)
 refine ⟨(entS_fm h.toWF h.rs h.pl h.rg).1,by rw [entS_len]; have:=h.st.len; have:=h.nv; omega,List.all_eq_true.2 fun x hx=>hf x ((h3 x).1 hx),fun x hx=>?_⟩
 obtain ⟨e,he,hl⟩:=h4 x ((h3 x).1 hx)
 exact ⟨entE S e,entS_mem.2 ⟨e,he,rfl⟩,by rw [neg_eq (hf x ((h3 x).1 hx))]; exact hl⟩
open Classical in
noncomputable def anz (S:ES):Int×List Int:=if h:∃p:Int×List Int,LSpec (entS S) (arGet S.ar S.bad) 0 p.1 p.2 then Classical.choose h else (0,[])
noncomputable def shz (S:ES):List Int:=shr (entS S) (anz S).2 (anz S).2.length
theorem anz_spec {S:ES} (h:Cf S):LSpec (entS S) (arGet S.ar S.bad) 0 (anz S).1 (anz S).2:=by
 have hex:∃p:Int×List Int,LSpec (entS S) (arGet S.ar S.bad) 0 p.1 p.2:=by
  obtain ⟨b,cl,hh⟩:=lspec_ex h.fm h.ln h.cf h.fa
  exact ⟨(b,cl),hh⟩
 unfold anz
 rw [dif_pos hex]
 exact Classical.choose_spec hex
structure Lf (S:ES) (back:Int) (s:List Int):Prop where
 ne:s≠[]
 wi:∀x∈s,Wi S.nv x
 nd:s.Nodup
 ln:s.length≤S.nv
 b0:0≤back
 bl:back<S.L.length
 fr:freeA S.nv (upto back S.R) (s.headD 0)=0
 hu:∀x∈s,x≠s.headD 0→∃e∈upto back S.R,e.lit=-x
 hd:∃e∈S.R,e.lit=-(s.headD 0)∧e.lv=S.L.length
 mx:1<s.length→∃x∈s.tail,∃e∈S.R,e.lit=-x∧e.lv=back
 m1:s.length<2→back=0
theorem lvl_ent1 {S:ES} (hF:Fm (entS S)) {x:Int} (hf:fl x=true) {y:En} (hy:y∈entS S) (hl:y.lit=Learn.neg x):∃e∈S.R,e.lit=-x∧e.lv=lvl (entS S) x:=by
 obtain ⟨e,he,hee⟩:=entS_mem.1 hy
 obtain ⟨j,hj⟩:=Learn.mem_ix hy
 refine ⟨e,he,?_,?_⟩
 ·rw [←neg_eq hf,←hl,←hee]; rfl
 ·rw [Learn.lvl_of hF hj hl,←hee]; rfl
theorem lz_lev1 {S:ES} (h:Iz S) (hl:Lz S):Lev1 (entS S):=by
 intro i x hx hr hpos
 obtain ⟨e,he,hee⟩:=entS_mem.1 (List.mem_of_getElem? hx)
 have h0:0≤e.rs:=by
  apply Classical.byContradiction
  intro hn
  apply hr; rw [←hee]; unfold entE; rw [if_neg hn]
 have hlv:e.lv=x.lev:=by rw [←hee]; rfl
 obtain ⟨k,d,h1,h2,z,hz,hne,f,hf,hfl,hfv⟩:=hl e he h0 (by omega)
 obtain ⟨k',d',g1,g2,g3,g4⟩:=ent_rs h.pl h.rg he h0
 have hk:=h.pl.inj k k' d d' h1 g1 (by rw [h2,g2])
 subst hk
 rw [h1] at g1; injection g1 with g1; subst g1
 have hfz:fl z=true:=wi_fl h.nv ((h.hl k d h1).1 z hz)
 have hfm:=entS_mem.2 ⟨f,hf,rfl⟩
 obtain ⟨j,hj⟩:=Learn.mem_ix hfm
 refine ⟨z,by rw [←hee]; exact (g4 z).2 hz,by rw [←hee]; exact hne,j,entE S f,hj,by rw [neg_eq hfz]; exact hfl,?_⟩
 show f.lv=x.lev
 omega
theorem nodup_len {α:Type} [DecidableEq α]:∀{l m:List α},l.Nodup→(∀x∈l,x∈m)→l.length≤m.length
 | [],m,_,_=>Nat.zero_le _
 | a :: l,m,hn,hs=>by
  rw [List.nodup_cons] at hn
  have ha:=hs a (by simp)
  have:=nodup_len (l:=l) (m:=m.erase a) hn.2 fun x hx=>(List.mem_erase_of_ne (fun (e:x=a)=>hn.1 (e ▸ hx))).2 (hs x (by simp [hx]))
  rw [List.length_erase_of_mem ha] at this
  have hp:0<m.length:=List.length_pos_of_mem ha
  simp only [List.length_cons]
  omega
theorem learn_ans {S:ES} (h:Iz S) (hl:Lz S) (hc:S.clash=true):((anz S).2=[]∧S.L=[]∧(anz S).1=-1)∨((anz S).2≠[]∧(anz S).2.length≤S.nv∧Askd (entS S) (anz S).2 0∧Lf S (anz S).1 (shz S)):=by
 have hC:=h.cf hc
 have hsp:=anz_spec hC
 obtain ⟨k,d,h1,h2,h3,h4,h5⟩:=(h.kl hc).2.conf h.pl
 have hdf:∀x∈d.ls,fl x=true:=fun x hx=>wi_fl h.nv ((h.hl k d h1).1 x hx)
 have lv_of:∀{x:Int} {e:E},fl x=true→e∈S.R→e.lit=-x→lvl (entS S) x=e.lv:=fun {x e} hfx he hl=>by
  have hm:=entS_mem.2 ⟨e,he,rfl⟩
  obtain ⟨j,hj⟩:=Learn.mem_ix hm
  rw [Learn.lvl_of hC.fm hj (l:=x) (by rw [neg_eq hfx]; exact hl)]; rfl
 rcases lspec_ans hC.fm hC.ln hC.cf hC.fa hsp with ⟨e1,e2,hM⟩ | ⟨o,L,top,e1,hA⟩
 ·refine Or.inl ⟨e1,?_,e2⟩
  rcases h5 with h5 | ⟨x,hx,e,he,hel,hev⟩
  ·exact h5
  ·have:=hM.1 x ((h3 x).2 hx)
   rw [lv_of (hdf x hx) he hel,hev] at this
   exact List.eq_nil_of_length_eq_zero (by omega)
 ·have htop:top=S.L.length:=by
   have hle:top≤S.L.length:=by
    obtain ⟨j,y,g1,g2,g3⟩:=hA.eo
    obtain ⟨e,he,hee⟩:=entS_mem.1 (List.mem_of_getElem? g1)
    rw [←g3,←hee]; exact (h.st.lvl e he).2
   rcases h5 with h5 | ⟨x,hx,e,he,hel,hev⟩
   ·rw [h5] at hle ⊢; have:=hA.pos; simp at hle; omega
   ·have:=hA.mx.1 x ((h3 x).2 hx)
    rw [lv_of (hdf x hx) he hel,hev] at this
    omega
  have hnd:=List.nodup_cons.2 ⟨hA.no,hA.nd⟩
  obtain ⟨s',hs,hsub,hdr⟩:=shr_cons hC.fm hnd fun l hl=>⟨(hA.ml l hl).1,(hA.ml l hl).2.1⟩
  have hsz:shz S=o :: s':=by unfold shz; rw [e1]; exact hs
  have hent:∀x∈o :: L,fl x=true∧∃e∈S.R,e.lit=-x∧e.lv=lvl (entS S) x:=fun x hx=>by
   rcases List.mem_cons.1 hx with rfl | hx
   ·obtain ⟨j,y,g1,g2,g3⟩:=hA.eo
    exact ⟨hA.fo,lvl_ent1 hC.fm hA.fo (List.mem_of_getElem? g1) g2⟩
   ·obtain ⟨a,b,c,y,hy,hyl⟩:=hA.ml x hx
    exact ⟨a,lvl_ent1 hC.fm a hy hyl⟩
  have hlen:(o :: L).length≤S.nv:=by
   have:=nodup_len (m:=S.R.map fun e=>-e.lit) hnd fun x hx=>by
    obtain ⟨_,e,he,hl,_⟩:=hent x hx
    exact List.mem_map.2 ⟨e,he,by omega⟩
   rw [List.length_map] at this
   have:=h.st.len
   omega
  have hwi:∀x∈o :: L,Wi S.nv x:=fun x hx=>by
   obtain ⟨_,e,he,hl,_⟩:=hent x hx
   have:=own_wi (h.st.own e he)
   rw [hl] at this
   have:=wi_neg this
   rwa [Int.neg_neg] at this
  have hsubs:∀x∈o :: s',x∈o :: L:=fun x hx=>by
   rcases List.mem_cons.1 hx with rfl | hx
   ·simp
   ·exact List.mem_cons_of_mem _ (hsub.subset hx)
  have hbn:L=[]→(anz S).1=0:=fun hL=>by
   have:=hA.mb
   rw [hL] at this
   rcases this.2.2 with q | ⟨l,hl,_⟩
   ·exact q
   ·cases hl
  have hback:0≤(anz S).1∧(anz S).1<top:=by
   refine ⟨hA.mb.2.1,?_⟩
   by_cases hL:L=[]
   ·rw [hbn hL]; exact hA.pos
   ·exact (back_stays hC.fm (lz_lev1 h hl) hA hdr hL).2.1
  refine Or.inr ⟨by rw [e1]; simp,by rw [e1]; exact hlen,?_,?_⟩
  ·rw [e1]
   exact Or.inr (Or.inr ⟨rfl,fun x hx=>by
    obtain ⟨a,e,he,b,_⟩:=hent x hx
    exact ⟨entE S e,entS_mem.2 ⟨e,he,rfl⟩,by rw [neg_eq a]; exact b⟩,hC.fm,List.all_eq_true.2 fun x hx=>(hent x hx).1⟩)
  rw [hsz]
  have hnds:(o :: s').Nodup:=List.nodup_cons.2 ⟨fun q=>hA.no (hsub.subset q),hA.nd.sublist hsub⟩
  have hoe:∃e∈S.R,e.lit=-o∧e.lv=S.L.length:=by
   obtain ⟨_,e,he,b,c⟩:=hent o (by simp)
   exact ⟨e,he,b,by rw [c,hA.lo,htop]⟩
  refine ⟨by simp,fun x hx=>hwi x (hsubs x hx),hnds,?_,hback.1,by omega,?_,fun x hx hne=>?_,hoe,fun h1=>?_,fun h1=>?_⟩
  ·have:=hsub.length_le
   simp only [List.length_cons] at hlen ⊢; omega
  ·show freeA S.nv (upto (anz S).1 S.R) o=0
   obtain ⟨e,he,b,c⟩:=hoe
   have hno:∀f∈upto (anz S).1 S.R,f.lit.natAbs≠o.natAbs:=fun f hf hq=>by
    obtain ⟨hf1,hf2⟩:=upto_mem.1 hf
    have m1:=ent_mem h.st hf1
    have m2:=ent_mem h.st he
    rw [hq] at m1
    rw [b,Int.natAbs_neg,m1] at m2
    injection m2 with m2
    rw [m2] at hf2; omega
   unfold freeA
   rw [if_pos (wi_own (hwi o (by simp)))]
   rw [show Trail.ent (upto (anz S).1 S.R) o.natAbs=none from Trail.ent_none.2 hno]
  ·have hx':x≠o:=hne
   have hxs:x∈s':=(List.mem_cons.1 hx).resolve_left hx'
   obtain ⟨_,e,he,b,c⟩:=hent x (hsubs x hx)
   exact ⟨e,upto_mem.2 ⟨he,by rw [c]; exact hA.mb.1 x (hsub.subset hxs)⟩,b⟩
  ·have hL:L≠[]:=fun e=>by
    rw [e] at hsub
    have:=hsub.length_le
    simp only [List.length_cons,List.length_nil] at h1 this; omega
   obtain ⟨_,_,l,hl1,hl2⟩:=back_stays hC.fm (lz_lev1 h hl) hA hdr hL
   obtain ⟨_,e,he,b,c⟩:=hent l (List.mem_cons_of_mem _ (hsub.subset hl1))
   exact ⟨l,hl1,e,he,b,by rw [c,hl2]⟩
  ·refine hbn (Classical.byContradiction fun hL=>?_)
   obtain ⟨_,_,l,hl1,_⟩:=back_stays hC.fm (lz_lev1 h hl) hA hdr hL
   have:=List.length_pos_of_mem hl1
   simp only [List.length_cons] at h1; omega
end Go.Proofs.YtmhjehodfggleaaGreat.Eng

/- An Engine in plain: all that holds of it, through Learn. -/

set_option linter.unusedVariables false
set_option linter.unusedSimpArgs false
set_option linter.unusedSectionVars false
set_option maxRecDepth 100000
namespace Go.Proofs.YtmhjehodfggleaaGreat.Eng
open Go Go.Proofs.YtmhjehodfggleaaGreat.Vc Go.Proofs.YtmhjehodfggleaaGreat.T
open Go.Proofs.YtmhjehodfggleaaGreat.Trail (E St ownB upto freeA)
open Go.Proofs.YtmhjehodfggleaaGreat.Apart (getE)
open Go.Proofs.YtmhjehodfggleaaGreat.Lits (fl fl_iff)
theorem maxL_max (S:ES) (cs:List Int):∀y∈cs,lvx S y≤lvx S (maxL S cs):=by
 cases cs with
 | nil=>intro y hy; cases hy
 | cons x xs=>
  have key:∀(xs:List Int) (m:Int),lvx S m≤lvx S (xs.foldl (fun m y=>if 0<lvx S y - lvx S m then y else m) m)∧∀y∈xs,lvx S y≤lvx S (xs.foldl (fun m y=>if 0<lvx S y - lvx S m then y else m) m):=by
   intro xs
   induction xs with
   | nil=>exact fun m=>⟨Int.le_refl _,fun y hy=>by cases hy⟩
   | cons z zs ih=>
    intro m
    rw [List.foldl_cons]
    by_cases hz:0<lvx S z - lvx S m
    ·rw [if_pos hz]
     obtain ⟨a,b⟩:=ih z
     exact ⟨by omega,fun y hy=>by rcases List.mem_cons.1 hy with rfl | hy; exact a; exact b y hy⟩
    ·rw [if_neg hz]
     obtain ⟨a,b⟩:=ih m
     exact ⟨a,fun y hy=>by rcases List.mem_cons.1 hy with rfl | hy; omega; exact b y hy⟩
  intro y hy
  rcases List.mem_cons.1 hy with rfl | hy
  ·exact (key xs y).1
  ·exact (key xs x).2 y hy
theorem lvx_ent {S:ES} (hs:StE S) {e:E} (he:e∈S.R) {x:Int} (hl:e.lit=-x):lvx S x=e.lv:=by
 have:=(lev_ent hs he).1
 rw [hl,Int.natAbs_neg] at this
 exact this
theorem eyes_old (S:ES) (s:List Int) {k:Nat} {d:Hd} (hk:k<S.H.length) (h:(eyesS S s).H[k]?=some d):S.H[k]?=some d:=by
 obtain ⟨d0,hd0⟩:=getE hk
 have:=(eyes_G S s).1 k d0 hd0
 rw [h] at this; injection this with this; rw [this]; exact hd0
theorem eyes_len (S:ES) (s:List Int):(eyesS S s).H.length=S.H.length+1:=by
 unfold eyesS
 split
 ·show ((S.H++[newHd S s]).set _ _).length=_
  rw [List.length_set,List.length_append]; rfl
 ·show (S.H++[newHd S s]).length=_
  rw [List.length_append]; rfl
theorem eyes_new (S:ES) (s:List Int):∃d,(eyesS S s).H[S.H.length]?=some d∧d.ls=s∧d.at_=atN S∧d.gone=false∧(1<s.length→d.e0=s.headD 0∧d.e1=maxL S s.tail):=by
 have hl:S.H.length<(S.H++[newHd S s]).length:=by rw [List.length_append]; simp
 unfold eyesS
 split
 ·exact ⟨_,List.getElem?_set_self hl,rfl,rfl,rfl,fun _=>⟨rfl,rfl⟩⟩
 ·rename_i hn
  exact ⟨newHd S s,by show (S.H++[newHd S s])[S.H.length]?=_; rw [List.getElem?_append_right (Nat.le_refl _),Nat.sub_self]; rfl,rfl,rfl,rfl,fun h=>absurd h hn⟩
theorem eyes_em {S:ES} (hw:WfE S) (h:Em S (fun _=>False)) {s:List Int} (hnd:s.Nodup) (hwi:∀x∈s,Wi S.nv x):Em (eyesS S s) (fun _=>False):=by
 have h1:Em (heldS S s) (·=S.H.length):=h.snoc rfl rfl
 unfold eyesS
 split
 ·rename_i hlen
  match s,hlen with
  | a :: b :: t,_=>
   have hm:maxL S (b :: t)∈b :: t:=maxL_mem S (by simp)
   have hne:a≠maxL S (b :: t):=fun e=>(List.nodup_cons.1 hnd).1 (e ▸ hm)
   exact Em.watch h1 (by show (S.H++[_])[S.H.length]?=_; rw [List.getElem?_append_right (Nat.le_refl _),Nat.sub_self]; rfl) (by show a∈a :: b :: t; simp) (by show maxL S (b :: t)∈a :: b :: t; exact List.mem_cons_of_mem _ hm) hne (by show _<S.lists.length; rw [hw.ll]; exact idxN_lt (hwi a (by simp))) (by show _<S.lists.length; rw [hw.ll]; exact idxN_lt (hwi _ (List.mem_cons_of_mem _ hm)))
 ·rename_i hlen
  intro j d hd hf
  refine h1 j d hd fun e=>?_
  have:=hd.1
  rw [e,show (heldS S s).H=S.H++[newHd S s] from rfl,List.getElem?_append_right (Nat.le_refl _),Nat.sub_self] at this
  have h2:=hd.2.2
  injection this with this
  rw [←this] at h2
  exact hlen h2
theorem eyes_fl (S:ES) (s:List Int):(eyesS S s).head=S.head∧(eyesS S s).rest=S.rest∧(eyesS S s).clash=false∧(eyesS S s).dead=S.dead∧(eyesS S s).ar=(putAr S s).ar∧(eyesS S s).log=S.log++[(false,s)]:=by
 unfold eyesS; split<;>exact ⟨rfl,rfl,rfl,rfl,rfl,rfl⟩
theorem Iz.learn {S:ES} (h:Iz S) (hc:S.clash=true) {back:Int} {s:List Int} (hf:Lf S back s) (hcl:S.H.length+1≤8796093022208) (hle:S.learnts.length+1≤8796093022208):Iz (learnT S back s):=by
 obtain ⟨q,hq,_⟩:=h.iw
 have hbl:=hf.bl
 have hI:=h.toInv.learn hcl hle hf.ne hf.wi hf.nd (by have:=hf.ln; have:=h.nv; omega) hf.b0 (Int.le_of_lt hbl) hf.fr hf.hu
 obtain ⟨g1,_,g6,g7⟩:=eyes_G S s
 obtain ⟨_,_,e5,e6,e7⟩:=eyes_H S s
 obtain ⟨f1,f2,f3,f4,_⟩:=eyes_fl S s
 obtain ⟨dn,n1,n2,n3,n4,n5⟩:=eyes_new S s
 have hEm:Em (eyesS S s) (fun _=>False):=eyes_em h.toWfE (fun k d hd _=>⟨hq.ey k d hd,hq.mm k d hd⟩) hf.nd hf.wi
 have hlt:=upto_lt h.st hf.b0 hbl hq.lv
 have hhd:(learnT S back s).head=(upto back S.R).length:=by
  show min (eyesS S s).head (upto back (eyesS S s).R).length=_
  rw [f1,e5]; exact Nat.min_eq_right (Nat.le_trans hlt hq.hd)
 have hR:(learnT S back s).R=upto back S.R++[(⟨s.headD 0,back,atN S⟩:E)]:=by
  show upto back (eyesS S s).R++[(⟨s.headD 0,(((eyesS S s).L.take back.toNat).length:Nat),atN S⟩:E)]=_
  rw [e5,e6,List.length_take]
  have:((min back.toNat S.L.length:Nat):Int)=back:=by have:=hf.b0; omega
  rw [this]
 have hL:(learnT S back s).L=S.L.take back.toNat:=by show (eyesS S s).L.take _=_; rw [e6]
 have hLl:((learnT S back s).L.length:Int)=back:=by rw [hL,List.length_take]; have:=hf.b0; omega
 have hH:(learnT S back s).H=(eyesS S s).H:=rfl
 have hTc:∀d,T0 S d→T0 (learnT S back s) d:=fun d ⟨x,hx,f,hf1,hf2,hf3⟩=>⟨x,hx,f,by rw [hR]; exact List.mem_append_left _ (upto_mem.2 ⟨hf1,by rw [hf3]; exact hf.b0⟩),hf2,hf3⟩
 obtain ⟨_,hop⟩:=Trail.freeA_open hf.fr
 have hob:∀u o,Ob S q u o→Ob (learnT S back s) (upto back S.R).length u o:=fun u o hb p e hp he hl=>by
  rw [hR,List.getElem?_append_left hp] at he
  have hm:=upto_mem.1 (List.mem_of_getElem? he)
  rw [(upto_take h.st hf.b0 (Int.le_of_lt hbl)).1,List.getElem?_take] at he
  split at he
  ·obtain ⟨f,hf1,hf2,hf3⟩:=hb p e (by omega) he hl
   exact ⟨f,by rw [hR]; exact List.mem_append_left _ (upto_mem.2 ⟨hf1,by omega⟩),hf2,hf3⟩
  ·cases he
 refine ⟨hI,⟨_,⟨Nat.le_refl _,by rw [hhd,hR,List.length_append]; exact Nat.le_add_right _ _,fun p e hp he=>?_,fun k d hd=>(hEm k d hd fun h=>h).1,fun k d hd=>(hEm k d hd fun h=>h).2,fun k d hd=>?_⟩,fun _ _=>rfl⟩,fun k hk d hd hl=>?_,fun hh k hk d hd=>?_,fun hh=>?_,fun hh=>?_⟩
 ·rw [hhd] at hp
  rw [hR,List.getElem?_append_right hp] at he
  have he':=List.mem_of_getElem? he
  rw [List.mem_singleton] at he'
  rw [he',hLl]
 ·rw [hhd]
  by_cases hk:k<S.H.length
  ·have hd':Wd S k d:=⟨eyes_old S s hk hd.1,hd.2.1,hd.2.2⟩
   exact ⟨hob _ _ (hq.ob k d hd').1,hob _ _ (hq.ob k d hd').2⟩
  ·have hkl:k<(eyesS S s).H.length:=(List.getElem?_eq_some_iff.1 hd.1).1
   rw [eyes_len] at hkl
   have hke:k=S.H.length:=by omega
   subst hke
   have hd1:(eyesS S s).H[S.H.length]?=some d:=hd.1
   rw [n1] at hd1; injection hd1 with hd1; subst hd1
   have hsl:1<s.length:=by rw [←n2]; exact hd.2.2
   obtain ⟨p0,p1⟩:=n5 hsl
   rw [p0,p1]
   have htl:s.tail≠[]:=fun e=>by have:=congrArg List.length e; rw [List.length_tail] at this; simp at this; omega
   have hmm:=maxL_mem S htl
   refine ⟨fun p e hp he hl=>?_,fun p e hp he hl=>?_⟩
   ·rw [hR,List.getElem?_append_left hp] at he
    exact absurd (by rw [hl,Int.natAbs_neg]) (hop e (List.mem_of_getElem? he))
   ·refine ⟨⟨s.headD 0,back,atN S⟩,by rw [hR]; exact List.mem_append_right _ (List.mem_singleton.2 rfl),rfl,?_⟩
    rw [hR,List.getElem?_append_left hp] at he
    have hem:=(upto_mem.1 (List.mem_of_getElem? he)).1
    obtain ⟨x,hx,f,hf1,hf2,hf3⟩:=hf.mx hsl
    have:=maxL_max S s.tail x hx
    rw [lvx_ent h.st hf1 hf2,lvx_ent h.st hem hl,hf3] at this
    exact this
 ·have hk':k∈(eyesS S s).learnts:=hk
  rw [g7] at hk'
  have hd':(eyesS S s).H[k]?=some d:=hd
  rcases List.mem_append.1 hk' with hk' | hk'
  ·exact hTc d (h.un k hk' d (eyes_old S s (h.le k hk') hd') hl)
  ·rw [List.mem_singleton.1 hk',n1] at hd'
   injection hd' with hd'; subst hd'
   refine ⟨s.headD 0,by rw [n2]; cases s with
    | nil=>exact absurd rfl hf.ne
    | cons a t=>simp,⟨s.headD 0,back,atN S⟩,by rw [hR]; exact List.mem_append_right _ (List.mem_singleton.2 rfl),rfl,hf.m1 (by rw [←n2]; exact hl)⟩
 ·have hk':k∈(eyesS S s).short:=hk
  rw [g6] at hk'
  refine hTc d (h.ss (Or.inl fun e=>?_) k hk' d (eyes_old S s (h.sh k hk') hd))
  rw [e] at hbl; have:=hf.b0; simp at hbl; omega
 ·have:(eyesS S s).rest=true:=hh
  rw [f2] at this
  have:=(h.re this).1
  rw [hc] at this; cases this
 ·have:(eyesS S s).clash=true:=hh
  rw [f3] at this; cases this
theorem Iz.dead {S:ES} (h:Iz S) (hc:S.clash=true):Iz (deadS S):=by
 obtain ⟨q,hq,_⟩:=h.iw
 have hw:WF (deadS S):=(h.toWF.self S.head S.rest false true S.bad).note false []
 refine ⟨⟨hw,h.rs.to rfl fun k d hd=>⟨d,hd,rfl,rfl⟩,h.pl.to rfl fun k d hd=>⟨d,hd,rfl,rfl,rfl⟩,h.rg,h.s1,h.sg,h.dj⟩,⟨q,⟨hq.hd,hq.hl,hq.lv,hq.ey,hq.mm,hq.ob⟩,fun _ hd=>by cases hd⟩,h.un,h.ss,fun hh=>?_,fun hh=>by cases hh⟩
 have:=(h.re hh).1
 rw [hc] at this; cases this
noncomputable def learnS (S:ES):ES:=if S.clash=false then S else if (anz S).2=[] then deadS S else learnT S (anz S).1 (shz S)
theorem Iz.learnS {S:ES} (h:Iz S) (hl:Lz S) (hcl:S.H.length+1≤8796093022208) (hle:S.learnts.length+1≤8796093022208):Iz (learnS S):=by
 unfold Eng.learnS
 split
 ·exact h
 ·rename_i hc
  have hc:S.clash=true:=by cases h1:S.clash<;>simp_all
  split
  ·exact h.dead hc
  ·rename_i hne
   rcases learn_ans h hl hc with ⟨e,_⟩ | ⟨_,_,_,hf⟩
   ·exact absurd e hne
   ·exact h.learn hc hf hcl hle
theorem Lz.learn {S:ES} (h:Lz S) {back:Int} {s:List Int} (hf:Lf S back s):Lz (learnT S back s):=by
 obtain ⟨e1,⟨dn,n1,n2,n3⟩,e5,e6,e7⟩:=eyes_H S s
 have h1:Lz (cutS (eyesS S s) back):=(h.to e5 e1).cut back
 have hLl:((cutS (eyesS S s) back).L.length:Int)=back:=by
  show (((eyesS S s).L.take back.toNat).length:Int)=back
  rw [e6,List.length_take]; have:=hf.b0; have:=hf.bl; omega
 refine h1.put fun _ hne=>?_
 have hsl:1<s.length:=by
  apply Classical.byContradiction
  intro hn
  have:=hf.m1 (by omega)
  exact hne (List.eq_nil_of_length_eq_zero (by omega))
 obtain ⟨x,hx,f,hf1,hf2,hf3⟩:=hf.mx hsl
 refine ⟨S.H.length,dn,n1,n3,x,by rw [n2]; exact List.mem_of_mem_tail hx,fun e=>?_,f,upto_mem.2 ⟨by rw [e5]; exact hf1,by omega⟩,hf2,by rw [hLl]; exact hf3⟩
 cases s with
 | nil=>cases hx
 | cons a t=>exact (List.nodup_cons.1 hf.nd).1 (show a∈t from (show x=a from e) ▸ hx)
theorem Lz.learnS {S:ES} (hz:Iz S) (h:Lz S):Lz (learnS S):=by
 unfold Eng.learnS
 split
 ·exact h
 ·rename_i hc
  have hc:S.clash=true:=by cases h1:S.clash<;>simp_all
  split
  ·exact h.to rfl fun k d hd=>⟨d,hd,rfl,rfl⟩
  ·rename_i hne
   rcases learn_ans hz h hc with ⟨e,_⟩ | ⟨_,_,_,hf⟩
   ·exact absurd e hne
   ·exact h.learn hf
end Go.Proofs.YtmhjehodfggleaaGreat.Eng

/- An Engine in plain: which clauses it holds. -/

set_option linter.unusedVariables false
set_option linter.unusedSimpArgs false
set_option linter.unusedSectionVars false
set_option maxRecDepth 100000
namespace Go.Proofs.YtmhjehodfggleaaGreat.Eng
open Go Go.Proofs.YtmhjehodfggleaaGreat.Vc Go.Proofs.YtmhjehodfggleaaGreat.T
open Go.Proofs.YtmhjehodfggleaaGreat.Trail (E St ownB upto freeA)
open Go.Proofs.YtmhjehodfggleaaGreat.Apart (getE)
open Go.Proofs.YtmhjehodfggleaaGreat.Lits (fl fl_iff Td)
structure Cz (css:List (List Int)) (S:ES):Prop where
 src:∀(k:Nat) (d:Hd),S.H[k]?=some d→d.gone=false→k∉S.learnts→∃c∈css,∀x,x∈c↔x∈d.ls
 cov:∀c∈css,(∃x∈c,-x∈c)∨∃(k:Nat) (d:Hd),S.H[k]?=some d∧d.gone=false∧k∉S.learnts∧∀x,x∈c↔x∈d.ls
 sho:∀(k:Nat) (d:Hd),S.H[k]?=some d→d.gone=false→k∉S.learnts→d.ls.length<2→k∈S.short
 lrn:∀k∈S.learnts,∃d,S.H[k]?=some d∧d.gone=false
 lnd:S.learnts.Nodup
 zs:∀c∈css,∀x∈c,Wi S.nv x
variable {css:List (List Int)} {S S':ES}
theorem Cz.to (h:Cz css S) (h1:S'.learnts=S.learnts) (h2:S'.short=S.short) (h3:S'.nv=S.nv) (hb:∀(k:Nat) (d':Hd),S'.H[k]?=some d'→∃d,S.H[k]?=some d∧d'.ls=d.ls∧d'.gone=d.gone) (hf:∀(k:Nat) (d:Hd),S.H[k]?=some d→∃d',S'.H[k]?=some d'∧d'.ls=d.ls∧d'.gone=d.gone):Cz css S':=by
 refine ⟨fun k d hd hg hk=>?_,fun c hc=>?_,fun k d hd hg hk hl=>?_,fun k hk=>?_,by rw [h1]; exact h.lnd,by rw [h3]; exact h.zs⟩
 ·obtain ⟨d0,g1,g2,g3⟩:=hb k d hd
  rw [h1] at hk; rw [g2]; exact h.src k d0 g1 (g3 ▸ hg) hk
 ·rcases h.cov c hc with q | ⟨k,d,a,b,e,f⟩
  ·exact Or.inl q
  ·obtain ⟨d',g1,g2,g3⟩:=hf k d a
   exact Or.inr ⟨k,d',g1,g3.trans b,by rw [h1]; exact e,by rw [g2]; exact f⟩
 ·obtain ⟨d0,g1,g2,g3⟩:=hb k d hd
  rw [h1] at hk; rw [h2]; exact h.sho k d0 g1 (g3 ▸ hg) hk (g2 ▸ hl)
 ·rw [h1] at hk
  obtain ⟨d,a,b⟩:=h.lrn k hk
  obtain ⟨d',g1,g2,g3⟩:=hf k d a
  exact ⟨d',g1,g3.trans b⟩
theorem Cz.same (h:Cz css S) (h1:S'.learnts=S.learnts) (h2:S'.short=S.short) (h3:S'.nv=S.nv) (hH:S'.H=S.H):Cz css S':=
 h.to h1 h2 h3 (fun k d hd=>⟨d,by rw [←hH]; exact hd,rfl,rfl⟩) fun k d hd=>⟨d,by rw [hH]; exact hd,rfl,rfl⟩
theorem Cz.spread (hz:Iz S) (h:Cz css S):Cz css (spread S).1:=by
 have hf:=hz.toInv.spread.2
 exact h.to hf.learnts hf.short hf.nv (fun k d hd=>by
  obtain ⟨d0,a,b,_,c⟩:=hf.hls k d hd
  exact ⟨d0,a,b,c⟩) fun k d hd=>by
  obtain ⟨d0,a,b,_,c⟩:=hf.fwd (k:=k) (d:=d) hd
  exact ⟨d0,a,b,c⟩
theorem Cz.dec (h:Cz css S) (l:Int):Cz css (decS S l):=by unfold decS; split<;>exact h.same rfl rfl rfl rfl
theorem Cz.restart (h:Cz css S):Cz css (restart S).2:=by unfold Eng.restart; split<;>exact h.same rfl rfl rfl rfl
theorem Cz.dead (h:Cz css S):Cz css (deadS S):=h.same rfl rfl rfl rfl
theorem Cz.learn (hw:WfS S) (h:Cz css S) (back:Int) (s:List Int):Cz css (learnT S back s):=by
 obtain ⟨g1,_,g6,g7⟩:=eyes_G S s
 obtain ⟨dn,n1,n2,n3,n4,_⟩:=eyes_new S s
 have e7:(eyesS S s).nv=S.nv:=(eyes_H S s).2.2.2.2
 have hlt:∀{k:Nat} {d:Hd},(eyesS S s).H[k]?=some d→k∉S.learnts++[S.H.length]→S.H[k]?=some d∧k∉S.learnts:=fun {k d} hd hk=>by
  rw [List.mem_append,not_or,List.mem_singleton] at hk
  have:=(List.getElem?_eq_some_iff.1 hd).1
  rw [eyes_len] at this
  exact ⟨eyes_old S s (by omega) hd,hk.1⟩
 refine ⟨fun k d hd hg hk=>?_,fun c hc=>?_,fun k d hd hg hk hl=>?_,fun k hk=>?_,?_,?_⟩
 ·have hk':k∉(eyesS S s).learnts:=hk
  rw [g7] at hk'
  obtain ⟨a,b⟩:=hlt hd hk'
  exact h.src k d a hg b
 ·rcases h.cov c hc with q | ⟨k,d,a,b,e,f⟩
  ·exact Or.inl q
  ·refine Or.inr ⟨k,d,g1 k d a,b,?_,f⟩
   show k∉(eyesS S s).learnts
   rw [g7,List.mem_append,not_or,List.mem_singleton]
   exact ⟨e,fun q=>by have:=(List.getElem?_eq_some_iff.1 a).1; omega⟩
 ·have hk':k∉(eyesS S s).learnts:=hk
  rw [g7] at hk'
  obtain ⟨a,b⟩:=hlt hd hk'
  show k∈(eyesS S s).short
  rw [g6]; exact h.sho k d a hg b hl
 ·have hk':k∈(eyesS S s).learnts:=hk
  rw [g7] at hk'
  rcases List.mem_append.1 hk' with hk' | hk'
  ·obtain ⟨d,a,b⟩:=h.lrn k hk'
   exact ⟨d,g1 k d a,b⟩
  ·rw [List.mem_singleton.1 hk']; exact ⟨dn,n1,n4⟩
 ·show (eyesS S s).learnts.Nodup
  rw [g7,List.nodup_append]
  exact ⟨h.lnd,by simp,fun a ha b hb e=>by rw [List.mem_singleton.1 hb] at e; have:=hw.le a ha; omega⟩
 ·show ∀c∈css,∀x∈c,Wi (eyesS S s).nv x
  rw [e7]; exact h.zs
theorem Cz.learnS (hz:Iz S) (h:Cz css S):Cz css (learnS S):=by
 unfold Eng.learnS
 split
 ·exact h
 ·split
  ·exact h.dead
  ·exact h.learn hz.toWfS _ _
theorem erase_mem {l:List Nat} (hn:l.Nodup) {i k:Nat} (hk:l[i]?=some k) (j:Nat):j∈l.eraseIdx i↔j∈l∧j≠k:=by
 induction l generalizing i with
 | nil=>simp at hk
 | cons a l ih=>
  rw [List.nodup_cons] at hn
  cases i with
  | zero=>
   have:a=k:=by simpa using hk
   subst this
   rw [List.eraseIdx_zero,List.tail_cons,List.mem_cons]
   exact ⟨fun h=>⟨Or.inr h,fun e=>hn.1 (e ▸ h)⟩,fun ⟨h,hne⟩=>h.resolve_left hne⟩
  | succ i=>
   have hk':l[i]?=some k:=by simpa using hk
   rw [List.eraseIdx_cons_succ,List.mem_cons,List.mem_cons,ih hn.2 hk']
   constructor
   ·rintro (rfl | ⟨h,hne⟩)
    ·exact ⟨Or.inl rfl,fun e=>hn.1 (e ▸ List.mem_of_getElem? hk')⟩
    ·exact ⟨Or.inr h,hne⟩
   ·rintro ⟨rfl | h,hne⟩
    ·exact Or.inl rfl
    ·exact Or.inr ⟨h,hne⟩
theorem Cz.forget (h:Cz css S) (i:Int):Cz css (forget S i).2:=by
 unfold Eng.forget
 split
 ·exact h
 ·split
  ·exact h
  ·split
   ·exact h
   ·rename_i k hk
    split
    ·exact h
    ·rename_i d hd
     split
     ·exact h
     ·have hkl:=(List.getElem?_eq_some_iff.1 hd).1
      have hmem:=erase_mem h.lnd hk
      have hkle:k∈S.learnts:=List.mem_of_getElem? hk
      have hHb:∀(j:Nat) (d':Hd),(S.H.set k {d with gone:=true})[j]?=some d'→d'.gone=false→S.H[j]?=some d'∧j≠k:=fun j d' hj hg=>by
       rw [List.getElem?_set] at hj
       by_cases hkj:k=j
       ·subst hkj
        rw [if_pos rfl,if_pos hkl] at hj
        injection hj with hj; subst hj; cases hg
       ·rw [if_neg hkj] at hj; exact ⟨hj,fun e=>hkj e.symm⟩
      have hHf:∀(j:Nat) (d':Hd),S.H[j]?=some d'→j≠k→(S.H.set k {d with gone:=true})[j]?=some d':=fun j d' hj hne=>by
       rw [List.getElem?_set_ne (fun e=>hne e.symm)]; exact hj
      refine ⟨fun j d' hj hg hjl=>?_,fun c hc=>?_,fun j d' hj hg hjl hl=>?_,fun j hj=>?_,h.lnd.sublist (List.eraseIdx_sublist _ _),h.zs⟩
      ·obtain ⟨a,b⟩:=hHb j d' hj hg
       exact h.src j d' a hg fun q=>hjl ((hmem j).2 ⟨q,b⟩)
      ·rcases h.cov c hc with q | ⟨j,d',a,b,e,f⟩
       ·exact Or.inl q
       ·exact Or.inr ⟨j,d',hHf j d' a (fun q=>e (q ▸ hkle)),b,fun q=>e ((hmem j).1 q).1,f⟩
      ·obtain ⟨a,b⟩:=hHb j d' hj hg
       exact h.sho j d' a hg (fun q=>hjl ((hmem j).2 ⟨q,b⟩)) hl
      ·obtain ⟨a,b⟩:=(hmem j).1 hj
       obtain ⟨d',g1,g2⟩:=h.lrn j a
       exact ⟨d',hHf j d' g1 b,g2⟩
theorem taut_of {c:List Int} (h:taut c):∃x∈c,-x∈c:=h
theorem Cz.addC {cs:List (List Int)} (h:Cz cs S) (hle:S.learnts=[]) (hw:WfS S) {c:List Int} (hc:∀x∈c,Wi S.nv x):Cz (cs++[c]) (addC S c):=by
 have hf:∀x∈c,fl x=true:=fun x hx=>wi_fl hw.nv (hc x hx)
 have hT:=tidyL_td hf
 have hs:∀x,x∈c↔x∈(tidHd S c).ls:=fun x=>⟨fun hx=>(hT.mem x).2 ⟨hx,hf x hx⟩,fun hx=>((hT.mem x).1 hx).1⟩
 have hget:(S.H++[tidHd S c])[S.H.length]?=some (tidHd S c):=by rw [List.getElem?_append_right (Nat.le_refl _),Nat.sub_self]; rfl
 have hz:∀c'∈cs++[c],∀x∈c',Wi S.nv x:=fun c' hc'=>by
  rcases List.mem_append.1 hc' with q | q
  ·exact h.zs c' q
  ·rw [List.mem_singleton.1 q]; exact hc
 -- a clause more that is held
 have hold:∀(S1:ES),S1.learnts=[]→S1.nv=S.nv→(∀(k:Nat) (d':Hd),S1.H[k]?=some d'→∃d,(S.H++[tidHd S c])[k]?=some d∧d'.ls=d.ls∧d'.gone=d.gone)→(∀(k:Nat) (d:Hd),(S.H++[tidHd S c])[k]?=some d→∃d',S1.H[k]?=some d'∧d'.ls=d.ls∧d'.gone=d.gone)→(∀k∈S.short,k∈S1.short)→((tidHd S c).ls.length<2→S.H.length∈S1.short)→Cz (cs++[c]) S1:=fun S1 e1 e2 hb hfw hsh hsn=>by
  refine ⟨fun k d hd hg hk=>?_,fun c' hc'=>?_,fun k d hd hg hk hl=>?_,(fun k hk=>by rw [e1] at hk; cases hk),by rw [e1]; exact List.nodup_nil,by rw [e2]; exact hz⟩
  ·obtain ⟨d0,a,b,g⟩:=hb k d hd
   rcases snoc_get a with ⟨_,a⟩ | ⟨_,rfl⟩
   ·obtain ⟨c',h1,h2⟩:=h.src k d0 a (g ▸ hg) (by rw [hle]; simp)
    exact ⟨c',List.mem_append_left _ h1,by rw [b]; exact h2⟩
   ·exact ⟨c,by simp,by rw [b]; exact hs⟩
  ·rcases List.mem_append.1 hc' with q | q
   ·rcases h.cov c' q with q | ⟨k,d,a,b,e,f⟩
    ·exact Or.inl q
    ·obtain ⟨d',g1,g2,g3⟩:=hfw k d (by rw [List.getElem?_append_left (List.getElem?_eq_some_iff.1 a).1]; exact a)
     exact Or.inr ⟨k,d',g1,g3.trans b,by rw [e1]; simp,by rw [g2]; exact f⟩
   ·rw [List.mem_singleton.1 q]
    obtain ⟨d',g1,g2,g3⟩:=hfw _ _ hget
    exact Or.inr ⟨_,d',g1,g3,by rw [e1]; simp,by rw [g2]; exact hs⟩
  ·obtain ⟨d0,a,b,g⟩:=hb k d hd
   rcases snoc_get a with ⟨_,a⟩ | ⟨rfl,rfl⟩
   ·exact hsh k (h.sho k d0 a (g ▸ hg) (by rw [hle]; simp) (b ▸ hl))
   ·exact hsn (b ▸ hl)
 unfold Eng.addC
 split
 ·rename_i ht
  refine ⟨fun k d hd hg hk=>?_,fun c' hc'=>?_,h.sho,h.lrn,h.lnd,hz⟩
  ·obtain ⟨c',h1,h2⟩:=h.src k d hd hg hk
   exact ⟨c',List.mem_append_left _ h1,h2⟩
  ·rcases List.mem_append.1 hc' with q | q
   ·exact h.cov c' q
   ·rw [List.mem_singleton.1 q]; exact Or.inl ((tautB_iff c).1 ht)
 ·split
  ·exact hold _ hle rfl (fun k d hd=>⟨d,hd,rfl,rfl⟩) (fun k d hd=>⟨d,hd,rfl,rfl⟩) (fun k hk=>List.mem_append_left _ hk) fun _=>List.mem_append_right _ (List.mem_singleton.2 rfl)
  ·rename_i hlt
   refine hold _ hle rfl (fun k d hd=>?_) (fun k d hd=>?_) (fun k hk=>hk) fun q=>absurd q hlt
   ·obtain ⟨d0,a,b,_,e⟩:=watch_H (S:={putAr S c with H:=S.H++[tidHd S c]}) (k:=S.H.length) (d:=tidHd S c) hget ((tidyL c).headD 0) ((tidyL c).tail.headD 0) k d hd
    exact ⟨d0,a,b,e⟩
   ·show ∃d',((S.H++[tidHd S c]).set S.H.length _)[k]?=some d'∧_
    rw [List.getElem?_set]
    by_cases hk:S.H.length=k
    ·subst hk
     rw [hget] at hd; injection hd with hd; subst hd
     rw [if_pos rfl,if_pos (by rw [List.length_append]; simp)]
     exact ⟨_,rfl,rfl,rfl⟩
    ·rw [if_neg hk]; exact ⟨d,hd,rfl,rfl⟩
theorem newE_cz {nv:Nat} (hnv:nv≤1048576) {css:List (List Int)} (hn:css.length≤1048576) (hl:∀es∈css,es.length≤1048576) (hw:∀es∈css,∀x∈es,Wi nv x):Cz css (newE nv css)∧(newE nv css).ar.cs=css:=by
 have key:∀i,i≤css.length→NI ((css.take i).foldl Eng.addC (E0 nv)) i∧((css.take i).foldl Eng.addC (E0 nv)).nv=nv∧((css.take i).foldl Eng.addC (E0 nv)).learnts=[]∧Cz (css.take i) ((css.take i).foldl Eng.addC (E0 nv))∧((css.take i).foldl Eng.addC (E0 nv)).ar.cs=css.take i:=fun i=>by
  induction i with
  | zero=>exact fun _=>⟨ni0 hnv,rfl,rfl,⟨fun k d hd=>by simp [E0] at hd,fun c hc=>by simp at hc,fun k d hd=>by simp [E0] at hd,fun k hk=>by simp [E0] at hk,List.nodup_nil,fun c hc=>by simp at hc⟩,rfl⟩
  | succ i ih=>
   intro hi
   obtain ⟨h1,h2,h3,h4,h5⟩:=ih (by omega)
   obtain ⟨es,hes⟩:=getE (show i<css.length by omega)
   have hem:=List.mem_of_getElem? hes
   rw [take_snocN hes,List.foldl_append]
   obtain ⟨r1,r0,_,_⟩:=addC_ar ((css.take i).foldl Eng.addC (E0 nv)) es
   have r2:=(addC_row ((css.take i).foldl Eng.addC (E0 nv)) es).2.2.1
   refine ⟨h1.step (by rw [h2]; exact hw es hem) (hl es hem) (by omega),r0.trans h2,r2.trans h3,h4.addC h3 h1.wf (by rw [h2]; exact hw es hem),?_⟩
   show (Eng.addC ((css.take i).foldl Eng.addC (E0 nv)) es).ar.cs=_
   rw [r1]
   show ((css.take i).foldl Eng.addC (E0 nv)).ar.cs++[es]=_
   rw [h5]
 have hk:=key css.length (Nat.le_refl _)
 rw [List.take_length] at hk
 exact ⟨hk.2.2.2.1,hk.2.2.2.2⟩
end Go.Proofs.YtmhjehodfggleaaGreat.Eng

/- An Engine in plain: at rest its entries are closed; what is learnt is new, and follows. -/

set_option linter.unusedVariables false
set_option linter.unusedSimpArgs false
set_option linter.unusedSectionVars false
set_option maxRecDepth 100000
namespace Go.Proofs.YtmhjehodfggleaaGreat.Eng
open Go Go.Proofs.YtmhjehodfggleaaGreat.Vc Go.Proofs.YtmhjehodfggleaaGreat.T
open Go.Proofs.YtmhjehodfggleaaGreat.Trail (E St ownB upto freeA)
open Go.Proofs.YtmhjehodfggleaaGreat.Apart (getE)
open Go.Proofs.YtmhjehodfggleaaGreat.Lits (fl fl_iff Td)
open Go.Proofs.YtmhjehodfggleaaGreat.Learn (RsC lspec_rup)
structure Iq (css:List (List Int)) (S:ES):Prop where
 iz:Iz S
 lz:Lz S
 cz:Cz css S
variable {css:List (List Int)} {S:ES}
theorem newE_iq {nv:Nat} (hnv:nv≤1048576) {css:List (List Int)} (hn:css.length≤1048576) (hl:∀es∈css,es.length≤1048576) (hw:∀es∈css,∀x∈es,Wi nv x):Iq css (newE nv css):=
 ⟨newE_iz hnv hn hl hw,(fun e he=>by rw [(newE_ni hnv hn hl hw).2.2.1] at he; cases he),(newE_cz hnv hn hl hw).1⟩
theorem Iq.spread (h:Iq css S):Iq css (spread S).1:=⟨h.iz.spread,h.lz.spread h.iz,h.cz.spread h.iz⟩
theorem Iq.dec (h:Iq css S) (l:Int):Iq css (decS S l):=⟨h.iz.dec l,h.lz.dec l,h.cz.dec l⟩
theorem Iq.restart (h:Iq css S):Iq css (restart S).2:=⟨h.iz.restart,h.lz.restart,h.cz.restart⟩
theorem Iq.forget (h:Iq css S) (i:Int):Iq css (forget S i).2:=⟨h.iz.forget i,h.lz.forget i,h.cz.forget i⟩
theorem Iq.learn (h:Iq css S) (hcl:S.H.length+1≤8796093022208) (hle:S.learnts.length+1≤8796093022208):Iq css (learnS S):=⟨h.iz.learnS h.lz hcl hle,h.lz.learnS h.iz,h.cz.learnS h.iz⟩
def allC (css:List (List Int)) (S:ES):List (List Int):=css++learntsS S
theorem held_at {k:Nat} {d:Hd} (h:S.H[k]?=some d):heldLits S k=d.ls:=by unfold heldLits; rw [h]; rfl
theorem mem_learnts {c:List Int} (hc:Cz css S):c∈learntsS S↔∃(k:Nat) (d:Hd),k∈S.learnts∧S.H[k]?=some d∧d.gone=false∧c=d.ls:=by
 unfold learntsS
 rw [List.mem_map]
 constructor
 ·rintro ⟨k,hk,rfl⟩
  obtain ⟨d,a,b⟩:=hc.lrn k hk
  exact ⟨k,d,hk,a,b,held_at a⟩
 ·rintro ⟨k,d,a,b,_,rfl⟩
  exact ⟨k,a,held_at b⟩
theorem all_held (hc:Cz css S) {c:List Int} (h:c∈allC css S):(∃x∈c,-x∈c)∨∃(k:Nat) (d:Hd),S.H[k]?=some d∧d.gone=false∧(∀x,x∈c↔x∈d.ls)∧(k∈S.learnts∨(k∉S.learnts∧(d.ls.length<2→k∈S.short))):=by
 rcases List.mem_append.1 h with h | h
 ·rcases hc.cov c h with q | ⟨k,d,a,b,e,f⟩
  ·exact Or.inl q
  ·exact Or.inr ⟨k,d,a,b,f,Or.inr ⟨e,hc.sho k d a b e⟩⟩
 ·obtain ⟨k,d,a,b,e,rfl⟩:=(mem_learnts hc).1 h
  exact Or.inr ⟨k,d,b,e,fun x=>Iff.rfl,Or.inl a⟩
theorem held_all (hc:Cz css S) {k:Nat} {d:Hd} (hd:S.H[k]?=some d) (hg:d.gone=false):∃c∈allC css S,∀x,x∈c↔x∈d.ls:=by
 by_cases hk:k∈S.learnts
 ·exact ⟨d.ls,List.mem_append_right _ ((mem_learnts hc).2 ⟨k,d,hk,hd,hg,rfl⟩),fun x=>Iff.rfl⟩
 ·obtain ⟨c,a,b⟩:=hc.src k d hd hg hk
  exact ⟨c,List.mem_append_left _ a,b⟩
theorem all_wi (h:Iq css S) {c:List Int} (hc:c∈allC css S):∀x∈c,Wi S.nv x:=by
 rcases List.mem_append.1 hc with hc | hc
 ·exact h.cz.zs c hc
 ·obtain ⟨k,d,a,b,e,rfl⟩:=(mem_learnts h.cz).1 hc
  exact (h.iz.hl k d b).1
def litsTo (S:ES) (d:Int):List Int:=(upto d S.R).map E.lit
theorem mem_litsTo {d x:Int} : x∈litsTo S d↔∃e∈S.R,e.lit=x∧e.lv≤d:=by
 unfold litsTo
 rw [List.mem_map]
 exact ⟨fun ⟨e,he,hl⟩=>⟨e,(upto_mem.1 he).1,hl,(upto_mem.1 he).2⟩,fun ⟨e,he,hl,hv⟩=>⟨e,upto_mem.2 ⟨he,hv⟩,hl⟩⟩
theorem cons_to (hs:StE S) (d:Int):Cons (litsTo S d):=fun x hx hn=>by
 obtain ⟨e,he,h1,_⟩:=mem_litsTo.1 hx
 obtain ⟨f,hf,h2,_⟩:=mem_litsTo.1 hn
 exact no_both hs hf he (by omega)
theorem rest_closed (h:Iq css S) (hr:S.rest=true) {d:Int} (hd:0≤d):Closed (allC css S) (litsTo S d):=by
 intro c hc
 obtain ⟨r1,r2,r3⟩:=h.iz.re hr
 obtain ⟨q,hq,hq2⟩:=h.iz.iw
 rw [hq2 r1 r2] at hq
 have t0:∀d',(∀x,x∈c↔x∈d'.ls)→T0 S d'→∃x∈c,x∈litsTo S d:=fun d' hs ⟨x,hx,f,hf,h1,h2⟩=>⟨x,(hs x).2 hx,mem_litsTo.2 ⟨f,hf,h1,by omega⟩⟩
 rcases all_held h.cz hc with q | ⟨k,d',a,b,hs,hk⟩
 ·exact Or.inl q
 by_cases hlen:d'.ls.length<2
 ·rcases hk with hk | ⟨_,hk⟩
  ·exact Or.inr (Or.inl (t0 d' hs (h.iz.un k hk d' a hlen)))
  ·exact Or.inr (Or.inl (t0 d' hs (h.iz.ss (Or.inr hr) k (hk hlen) d' a)))
 ·have hw:Wd S k d':=⟨a,b,by omega⟩
  obtain ⟨e1,e2,e3⟩:=hq.ey k d' hw
  obtain ⟨o1,o2⟩:=hq.ob k d' hw
  have key:∀u o,o∈d'.ls→Ob S S.head u o→-u∈litsTo S d→∃x∈c,x∈litsTo S d:=fun u o ho hb hu=>by
   obtain ⟨e,he,h1,h2⟩:=mem_litsTo.1 hu
   obtain ⟨p,hp⟩:=List.mem_iff_getElem?.1 he
   obtain ⟨f,hf,g1,g2⟩:=hb p e (by rw [r3]; exact (List.getElem?_eq_some_iff.1 hp).1) hp h1
   exact ⟨o,(hs o).2 ho,mem_litsTo.2 ⟨f,hf,g1,by omega⟩⟩
  by_cases h0 : -d'.e0∈litsTo S d
  ·exact Or.inr (Or.inl (key _ _ e2 o1 h0))
  ·by_cases h1 : -d'.e1∈litsTo S d
   ·exact Or.inr (Or.inl (key _ _ e1 o2 h1))
   ·exact Or.inr (Or.inr ⟨_,(hs _).2 e1,_,(hs _).2 e2,e3,h0,h1⟩)
theorem learn_new (h:Iq css S) (hc:S.clash=true) {back:Int} {s:List Int} (hf:Lf S back s) {c:List Int} (hcc:c∈allC css S):¬∀x,x∈c↔x∈s:=by
 intro hs
 obtain ⟨q,hq,_⟩:=h.iz.iw
 have hbl:=hf.bl
 have hfalse:∀x∈s,∃e∈S.R,e.lit=-x∧(x≠s.headD 0→e.lv<S.L.length):=fun x hx=>by
  by_cases hxo:x=s.headD 0
  ·obtain ⟨e,he,h1,_⟩:=hf.hd
   exact ⟨e,he,by rw [hxo]; exact h1,fun hne=>absurd hxo hne⟩
  ·obtain ⟨e,he,h1⟩:=hf.hu x hx hxo
   obtain ⟨h2,h3⟩:=upto_mem.1 he
   exact ⟨e,h2,h1,fun _=>by omega⟩
 have hno:∀x∈s,∀f∈S.R,f.lit≠x:=fun x hx f hf hl=>by
  obtain ⟨e,he,h1,_⟩:=hfalse x hx
  exact no_both h.iz.st he hf (by omega)
 have hLne:S.L≠[]:=fun e=>by rw [e] at hbl; have:=hf.b0; simp at hbl; omega
 have t0:∀d',(∀x,x∈c↔x∈d'.ls)→¬T0 S d':=fun d' hd' ⟨x,hx,f,hf,h1,_⟩=>hno x ((hs x).1 ((hd' x).2 hx)) f hf h1
 rcases all_held h.cz hcc with ⟨x,hx,hnx⟩ | ⟨k,d',a,b,hd',hk⟩
 ·obtain ⟨e,he,h1,_⟩:=hfalse x ((hs x).1 hx)
  exact hno _ ((hs _).1 hnx) e he h1
 by_cases hlen:d'.ls.length<2
 ·rcases hk with hk | ⟨_,hk⟩
  ·exact t0 d' hd' (h.iz.un k hk d' a hlen)
  ·exact t0 d' hd' (h.iz.ss (Or.inl hLne) k (hk hlen) d' a)
 ·have hw:Wd S k d':=⟨a,b,by omega⟩
  obtain ⟨e1,e2,e3⟩:=hq.ey k d' hw
  obtain ⟨o1,o2⟩:=hq.ob k d' hw
  have key:∀u o,u∈d'.ls→o∈d'.ls→u≠s.headD 0→Ob S q u o→False:=fun u o hu ho hne hb=>by
   obtain ⟨e,he,h1,h2⟩:=hfalse u ((hs u).1 ((hd' u).2 hu))
   obtain ⟨p,hp⟩:=List.mem_iff_getElem?.1 he
   have hpq:p<q:=by
    apply Classical.byContradiction
    intro hn
    have:=hq.lv p e (by omega) hp
    have:=h2 hne
    omega
   obtain ⟨f,hf,g1,_⟩:=hb p e hpq hp h1
   exact hno o ((hs o).1 ((hd' o).2 ho)) f hf g1
  by_cases h0:d'.e0=s.headD 0
  ·exact key _ _ e2 e1 (fun e=>e3 (h0.trans e.symm)) o2
  ·exact key _ _ e1 e2 h0 o1
theorem lv0_rs {n:Nat} {R:List E} {L:List Int} (h:St n R L):∀e∈R,e.lv=0→0≤e.rs:=by
 induction h with
 | nil=>intro e he; cases he
 | imply _ _ _ hr ih=>
  intro e he h0
  rcases List.mem_append.1 he with he | he
  ·exact ih e he h0
  ·rw [List.mem_singleton.1 he]; exact hr
 | @decide R L l _ _ _ ih=>
  intro e he h0
  rcases List.mem_append.1 he with he | he
  ·exact ih e he h0
  ·rw [List.mem_singleton.1 he] at h0
   exact absurd (show ((L.length+1:Nat):Int)=0 from h0) (by omega)
theorem rsC_all (h:Iq css S):RsC (allC css S) (entS S):=fun y hy hr=>by
 obtain ⟨e,he,hee⟩:=entS_mem.1 hy
 have h0:0≤e.rs:=by
  apply Classical.byContradiction
  intro hn
  apply hr; rw [←hee]; unfold entE; rw [if_neg hn]
 obtain ⟨k,d,g1,g2,g3,g4⟩:=ent_rs h.iz.pl h.iz.rg he h0
 obtain ⟨c,hc,hs⟩:=held_all h.cz g1 g3
 exact ⟨c,hc,fun z=>by rw [hs,←hee,g4]⟩
theorem learn_rup (h:Iq css S) (hc:S.clash=true):Clash (allC css S) ((shz S).map fun x=>-x):=by
 have hC:=h.iz.cf hc
 obtain ⟨k,d,h1,h2,h3,h4,h5⟩:=(h.iz.kl hc).2.conf h.iz.pl
 obtain ⟨c,hcc,hs⟩:=held_all h.cz h1 h2
 refine lspec_rup hC.fm hC.ln (rsC_all h) (fun y hy hl=>?_) ⟨c,hcc,fun z=>by rw [hs,h3]⟩ hC.cf hC.fa (anz_spec hC)
 obtain ⟨e,he,hee⟩:=entS_mem.1 hy
 have h0:=lv0_rs h.iz.st e he (by rw [←hl,←hee]; rfl)
 obtain ⟨i,hi⟩:=List.mem_iff_getElem?.1 he
 obtain ⟨k',d',g1,g2,g3,g4⟩:=ent_rs h.iz.pl h.iz.rg he h0
 obtain ⟨k2,d2,q1,q2,q3,_⟩:=h.iz.rs.rsn i e hi h0
 have:=h.iz.pl.inj k' k2 d' d2 g1 q1 (by rw [g2,q2])
 subst this
 rw [g1] at q1; injection q1 with q1; subst q1
 rw [←hee]
 exact fun e0=>by have:=(g4 e.lit).2 q3; rw [e0] at this; cases this
def Mo (T:Int→Prop) (S:ES):Prop:=∀c∈learntsS S,∃x∈c,T x
theorem learn_true (h:Iq css S) (hc:S.clash=true) {T:Int→Prop} (hT:∀x,T x→¬T (-x)) (hT2:∀x,x≠0→T x∨T (-x)) (hF:∀c∈css,∃x∈c,T x) (hM:Mo T S) (h0:∀x∈shz S,x≠0):∃x∈shz S,T x:=by
 apply Classical.byContradiction
 intro hn
 refine clash_true hT (fun c hcc=>?_) (fun y hy=>?_) (learn_rup h hc)
 ·rcases List.mem_append.1 hcc with q | q
  ·exact hF c q
  ·exact hM c q
 ·obtain ⟨x,hx,rfl⟩:=List.mem_map.1 hy
  exact (hT2 x (h0 x hx)).resolve_left fun ht=>hn ⟨x,hx,ht⟩
end Go.Proofs.YtmhjehodfggleaaGreat.Eng

/- An Engine in plain: how great its lists are. -/

set_option linter.unusedVariables false
set_option linter.unusedSimpArgs false
set_option linter.unusedSectionVars false
set_option maxRecDepth 100000
namespace Go.Proofs.YtmhjehodfggleaaGreat.Eng
open Go Go.Proofs.YtmhjehodfggleaaGreat.Vc Go.Proofs.YtmhjehodfggleaaGreat.T
open Go.Proofs.YtmhjehodfggleaaGreat.Arn (Ar words off cw words_snoc)
open Go.Proofs.YtmhjehodfggleaaGreat.Trail (E St ownB upto freeA)
open Go.Proofs.YtmhjehodfggleaaGreat.Apart (getE)
open Go.Proofs.YtmhjehodfggleaaGreat.Lits (fl fl_iff Td)
structure Sz (A B:Nat) (S:ES):Prop where
 h:S.H.length≤A
 a:S.ar.cs.length≤A
 w:(words S.ar.cs).length≤B
 g:S.log.length+S.learnts.length≤2*A
 cs:∀c∈S.ar.cs,c.length≤1048576
variable {css:List (List Int)} {A B A' B':Nat} {S S':ES}
theorem Sz.mono (h:Sz A B S) (hA:A≤A') (hB:B≤B'):Sz A' B' S:=⟨Nat.le_trans h.h hA,Nat.le_trans h.a hA,Nat.le_trans h.w hB,by have:=h.g; omega,h.cs⟩
theorem Sz.to (h:Sz A B S) (h1:S'.H.length=S.H.length) (h2:S'.ar.cs=S.ar.cs) (h3:S'.log.length+S'.learnts.length≤2*A):Sz A B S':=
 ⟨by rw [h1]; exact h.h,by rw [h2]; exact h.a,by rw [h2]; exact h.w,h3,by rw [h2]; exact h.cs⟩
theorem Sz.spread (hz:Iz S) (h:Sz A B S):Sz A B (spread S).1:=by
 have hf:=hz.toInv.spread.2
 exact h.to hf.hlen (by rw [hf.ar]) (by rw [hf.log,hf.learnts]; exact h.g)
theorem Sz.dec (h:Sz A B S) (l:Int):Sz A B (decS S l):=by unfold decS; split<;>exact h.to rfl rfl h.g
theorem Sz.restart (h:Sz A B S):Sz A B (restart S).2:=by unfold Eng.restart; split<;>exact h.to rfl rfl h.g
theorem Sz.forget (h:Sz A B S) (i:Int):Sz A B (forget S i).2:=by
 unfold Eng.forget
 split
 ·exact h
 ·split
  ·exact h
  ·split
   ·exact h
   ·rename_i k hk
    split
    ·exact h
    ·split
     ·exact h
     ·refine h.to (List.length_set ..) rfl ?_
      show (S.log++[_]).length+(S.learnts.eraseIdx i.toNat).length≤_
      have hlt:=(List.getElem?_eq_some_iff.1 hk).1
      rw [List.length_append,List.length_eraseIdx,if_pos hlt,List.length_singleton]
      have:=h.g
      omega
theorem Sz.dead (h:Sz A B S):Sz (A+1) B (deadS S):=by
 refine (h.mono (Nat.le_succ _) (Nat.le_refl _)).to rfl rfl ?_
 show (S.log++[_]).length+S.learnts.length≤_
 have:=h.g
 rw [List.length_append,List.length_singleton]; omega
theorem Sz.learn (h:Sz A B S) (back:Int) {s:List Int} (hs:s.length≤S.nv) (hnv:S.nv≤1048576):Sz (A+1) (B+S.nv+1) (learnT S back s):=by
 obtain ⟨_,_,_,_,f5,f6⟩:=eyes_fl S s
 obtain ⟨_,_,_,g7⟩:=eyes_G S s
 have e1:(learnT S back s).ar.cs=S.ar.cs++[s]:=by show (eyesS S s).ar.cs=_; rw [f5]; rfl
 have e2:(learnT S back s).log=S.log++[(false,s)]:=f6
 have e3:(learnT S back s).learnts=S.learnts++[S.H.length]:=g7
 refine ⟨by show (eyesS S s).H.length≤_; rw [eyes_len]; have:=h.h; omega,by rw [e1,List.length_append,List.length_singleton]; have:=h.a; omega,by rw [e1,words_snoc,List.length_append]; unfold cw; have:=h.w; simp only [List.length_cons]; omega,by rw [e2,e3,List.length_append,List.length_append,List.length_singleton,List.length_singleton]; have:=h.g; omega,fun c hc=>?_⟩
 rw [e1] at hc
 rcases List.mem_append.1 hc with q | q
 ·exact h.cs c q
 ·rw [List.mem_singleton.1 q]; omega
theorem Sz.learnS (hq:Iq css S) (h:Sz A B S):Sz (A+1) (B+S.nv+1) (learnS S):=by
 unfold Eng.learnS
 split
 ·exact h.mono (by omega) (by omega)
 ·rename_i hc
  have hc:S.clash=true:=by cases h1:S.clash<;>simp_all
  split
  ·exact h.dead.mono (by omega) (by omega)
  ·rename_i hne
   rcases learn_ans hq.iz hq.lz hc with ⟨e,_⟩ | ⟨_,_,_,hf⟩
   ·exact absurd e hne
   ·exact h.learn _ hf.ln hq.iz.nv
theorem newE_sz {nv:Nat} (hnv:nv≤1048576) {css:List (List Int)} (hn:css.length≤1048576) (hl:∀es∈css,es.length≤1048576) (hw:∀es∈css,∀x∈es,Wi nv x):Sz css.length (css.length*1048577) (newE nv css):=by
 obtain ⟨hN,_,_,_,h1,h2,_⟩:=newE_ni hnv hn hl hw
 have h3:=(newE_cz hnv hn hl hw).2
 exact ⟨hN.h,hN.a,hN.w,by rw [h1,h2]; simp,by rw [h3]; exact hl⟩
theorem arFind_len:∀(cs:List (List Int)) (r:Int),(∀c∈cs,c.length≤1048576)→(arFind cs r).length≤1048576
 | [],_,_=>by unfold arFind; simp
 | c :: cs,r,h=>by
  unfold arFind
  split
  ·exact h c (by simp)
  ·exact arFind_len cs _ fun c hc=>h c (List.mem_cons_of_mem _ hc)
theorem Sz.get (h:Sz A B S) (r:Int):(arGet S.ar r).length≤1048576:=by
 unfold arGet
 split
 ·exact arFind_len _ _ h.cs
 ·simp
theorem Sz.rs (h:Sz A B S):∀x∈entS S,x.rs.length≤1048576:=fun x hx=>by
 obtain ⟨e,_,rfl⟩:=entS_mem.1 hx
 unfold entE
 dsimp only
 split
 ·exact h.get _
 ·simp
def cap:Nat:=549755813888
theorem lok (hq:Iq css S) (h:Sz A B S) (hA:A≤cap) (hB:B≤8796093022208) (hc:S.clash=true):LOk S 0 (anz S).1 (anz S).2 (shz S):=by
 have h1:=h.a
 have h2:=h.w
 have h3:=h.g
 have hnv:=hq.iz.nv
 unfold cap at hA
 refine ⟨anz_spec (hq.iz.cf hc),h.rs,h.get _,by omega,by omega,by omega,?_,fun hne=>?_⟩
 ·rcases learn_ans hq.iz hq.lz hc with ⟨e,_⟩ | ⟨_,e,_⟩
  ·rw [e]; simp
  ·omega
 ·rcases learn_ans hq.iz hq.lz hc with ⟨e,_⟩ | ⟨_,_,e,hf⟩
  ·exact absurd e hne
  ·exact ⟨e,rfl,hf.ne,hf.wi,hf.b0,Int.le_of_lt hf.bl,hf.fr⟩
noncomputable def learnA (S:ES):List Int×Int×Int:=if S.clash=false then ([],0,3) else if (anz S).2=[] then ([],-1,0) else (shz S,(anz S).1,0)
theorem nv_spread (hz:Iz S):(spread S).1.nv=S.nv:=hz.toInv.spread.2.nv
theorem nv_dec (l:Int):(decS S l).nv=S.nv:=by unfold decS; split<;>rfl
theorem nv_restart:(restart S).2.nv=S.nv:=by unfold restart; split<;>rfl
theorem nv_learn (S:ES):(learnS S).nv=S.nv:=by
 unfold learnS
 split
 ·rfl
 ·split
  ·rfl
  ·show (eyesS S (shz S)).nv=S.nv
   exact (eyes_H S (shz S)).2.2.2.2
theorem nv_forget (i:Int):(forget S i).2.nv=S.nv:=by
 unfold forget
 split
 ·rfl
 ·split
  ·rfl
  ·split
   ·rfl
   ·split
    ·rfl
    ·split<;>rfl
end Go.Proofs.YtmhjehodfggleaaGreat.Eng

/- An Engine as a handle: where it lies, what it knows; its methods by that. -/

set_option linter.unusedVariables false
set_option linter.unusedSimpArgs false
set_option linter.unusedSectionVars false
set_option maxRecDepth 100000
namespace Go.Proofs.YtmhjehodfggleaaGreat.Eng
open Go Go.Proofs.YtmhjehodfggleaaGreat.Vc Go.Proofs.YtmhjehodfggleaaGreat.T
open Go.Proofs.YtmhjehodfggleaaGreat.Apart (RdL own_rdl wrap_nat getE own_len Sl sv New LL)
open Go.Proofs.YtmhjehodfggleaaGreat.Arn (words)
open Go.Proofs.YtmhjehodfggleaaGreat.Learn (En RdE)
open Go.Proofs.YtmhjehodfggleaaGreat.Lits (fl fl_iff)
structure Ge (M:Nat→Prop) (w:World) (b:Nat) (css:List (List Int)) (A B:Nat) (S:ES):Prop where
 rp:∃o h,Rp noEx w b o h S∧∀i,i<w.heap.size→tMine (o i)→M i
 iq:Iq css S
 sz:Sz A B S
 lt:∀i,M i→i<w.heap.size
def Grow (M:Nat→Prop) (w:World) (M':Nat→Prop):Prop:=∀i,M' i→M i∨w.heap.size≤i
structure Af (M:Nat→Prop) (w:World) (b:Nat) (css:List (List Int)) (A B:Nat) (S:ES) (M':Nat→Prop) (w':World):Prop where
 ge:Ge M' w' b css A B S
 gr:Grow M w M'
 kp:Keep M w w'
section
variable {M M':Nat→Prop} {w w':World} {b:Nat} {css:List (List Int)} {A B A' B':Nat} {S S':ES}
theorem Ge.keep {U:Nat→Prop} (h:Ge M w b css A B S) (hk:Keep U w w') (hU:∀i,U i→¬M i):Ge M w' b css A B S:=by
 obtain ⟨o,hs,hR,ho⟩:=h.rp
 refine ⟨⟨o,hs,hR.keepX hk fun i hi hu=>?_,fun i hi ht=>?_⟩,h.iq,h.sz,fun i hi=>Nat.lt_of_lt_of_le (h.lt i hi) hk.size⟩
 ·apply Classical.byContradiction
  intro hne
  exact hU i hu (ho i hi hne)
 ·by_cases hlt:i<w.heap.size
  ·exact ho i hlt ht
  ·exact absurd (hR.nrm i (by omega)) ht
theorem Ge.keep0 (h:Ge M w b css A B S) (hk:Keep None w w'):Ge M w' b css A B S:=h.keep hk fun i hi=>hi.elim
theorem Ge.blk (h:Ge M w b css A B S):M b:=by
 obtain ⟨o,hs,hR,ho⟩:=h.rp
 exact ho b hR.self.lt (by rw [hR.selfO]; unfold tMine; decide)
theorem Ge.mono (h:Ge M w b css A B S) (hA:A≤A') (hB:B≤B'):Ge M w b css A' B' S:=⟨h.rp,h.iq,h.sz.mono hA hB,h.lt⟩
theorem Af.same (h:Ge M w b css A B S) (hk:Keep None w w'):Af M w b css A B S M w':=⟨h.keep0 hk,fun i hi=>Or.inl hi,hk.none⟩
theorem Af.keep0 {w1:World} (h:Af M w b css A B S M' w') (hk:Keep None w' w1):Af M w b css A B S M' w1:=⟨h.ge.keep0 hk,h.gr,h.kp.then0 hk⟩
theorem Af.pre0 {w0:World} (h:Af M w b css A B S M' w') (hk:Keep None w0 w):Af M w0 b css A B S M' w':=
 ⟨h.ge,fun i hi=>(h.gr i hi).imp id fun q=>Nat.le_trans hk.size q,hk.none.trans h.kp fun i _ q=>q⟩
theorem Af.mono (h:Af M w b css A B S M' w') (hA:A≤A') (hB:B≤B'):Af M w b css A' B' S M' w':=⟨h.ge.mono hA hB,h.gr,h.kp⟩
theorem Af.trans {w1:World} {M1:Nat→Prop} {A1 B1:Nat} {S1:ES} (h:Af M w b css A1 B1 S1 M1 w1) (h':Af M1 w1 b css A B S M' w'):Af M w b css A B S M' w':=by
 refine ⟨h'.ge,fun i hi=>?_,h.kp.trans h'.kp fun i hi q=>(h.gr i q).resolve_right fun z=>by omega⟩
 rcases h'.gr i hi with q | q
 ·exact h.gr i q
 ·exact Or.inr (Nat.le_trans h.kp.size q)
theorem af_of {o:Nat→Int} {hs:Hs} (hR:Rp noEx w b o hs S) (ho:∀i,i<w.heap.size→tMine (o i)→M i) {o':Nat→Int} {hs':Hs} (hR':Rp noEx w' b o' hs' S') (ha:Ag w o o') (hk:Keep (fun i=>tMine (o i)) w w') (hq:Iq css S') (hz:Sz A' B' S') :
  Af M w b css A' B' S' (fun i=>i<w'.heap.size∧tMine (o' i)) w':=by
 refine ⟨⟨⟨o',hs',hR',fun i hi ht=>⟨hi,ht⟩⟩,hq,hz,fun i hi=>hi.1⟩,fun i hi=>?_,hk.mono fun i hi ht=>ho i hi ht⟩
 by_cases hlt:i<w.heap.size
 ·refine Or.inl (ho i hlt ?_)
  have h2:=hi.2
  rw [ha i hlt] at h2
  exact h2
 ·exact Or.inr (by omega)
theorem af_nx {o:Nat→Int} {hs:Hs} (hR:Rp noEx w b o hs S) (ho:∀i,i<w.heap.size→tMine (o i)→M i) (hN:Nx tMine noEx w b o hs S' w') (hq:Iq css S') (hz:Sz A' B' S'):∃M',Af M w b css A' B' S' M' w':=by
 obtain ⟨o',h',hR',ha,hk,_⟩:=hN
 exact ⟨_,af_of hR ho hR' ha hk hq hz⟩
theorem ge_spread (h:Ge M w b css A B S):Calls Tryz.prog 26 #[Pt b] w fun e w'=>e=.returned (.bool (spread S).2)∧∃M',Af M w b css A B (spread S).1 M' w':=by
 obtain ⟨o,hs,hR,ho⟩:=h.rp
 exact (spread7 hR h.iq.iz.toWfS).mono fun e w' ⟨he,hN⟩=>⟨he,af_nx hR ho hN h.iq.spread (h.sz.spread h.iq.iz)⟩
theorem ge_decide (h:Ge M w b css A B S) (l:Int) (hl : -9223372036854775808≤l):Calls Tryz.prog 61 #[Pt b,I l] w fun e w'=>e=.returned (I (decA S l))∧∃M',Af M w b css A B (decS S l) M' w':=by
 obtain ⟨o,hs,hR,ho⟩:=h.rp
 exact (decide6 hR l hl).mono fun e w' ⟨he,hN⟩=>⟨he,af_nx hR ho (hN.mono fun t ht=>tput_mine ht) (h.iq.dec l) (h.sz.dec l)⟩
theorem ge_dead (h:Ge M w b css A B S):Calls Tryz.prog 22 #[Pt b] w fun e w'=>e=.returned (.bool S.dead)∧w'=w:=by
 obtain ⟨o,hs,hR,ho⟩:=h.rp
 exact dead13 hR
theorem ge_level (h:Ge M w b css A B S):Calls Tryz.prog 64 #[Pt b] w fun e w'=>e=.returned (I S.L.length)∧w'=w:=by
 obtain ⟨o,hs,hR,ho⟩:=h.rp
 exact level33 hR
theorem ge_entries (h:Ge M w b css A B S) (hB:B≤8796093022208):Calls Tryz.prog 52 #[Pt b] w fun e w'=>∃p c,e=.returned (.slice p (entS S).length c)∧RdE w' p (entS S).length (entS S)∧(∀i,ob p i→w.heap.size≤i)∧Keep None w w':=by
 obtain ⟨o,hs,hR,ho⟩:=h.rp
 exact entries41 hR (by have:=h.sz.w; omega)
theorem ge_learnts (h:Ge M w b css A B S) (hA:A≤cap):Calls Tryz.prog 23 #[Pt b] w fun e w'=>∃p n c hs,e=.returned (.slice p n c)∧LL (fun i=>w.heap.size≤i) w' p n c hs (learntsS S)∧Keep None w w':=by
 obtain ⟨o,hs,hR,ho⟩:=h.rp
 exact learnts15 hR h.iq.iz.le (by have:=h.sz.g; unfold cap at hA; omega) fun k d hd=>by have:=(h.iq.iz.hl k d hd).2.2.1; omega
theorem ge_model (h:Ge M w b css A B S):Calls Tryz.prog 24 #[Pt b] w fun e w'=>(modelS S=none∧e=.returned (.tuple #[.slice none 0 0,.bool false])∧Keep None w w')∨
   ∃m p c,modelS S=some m∧m.length=S.nv∧e=.returned (.tuple #[.slice p S.nv c,.bool true])∧Own w' 4 1 p S.nv c (m.map Value.bool)∧(∀i,ob p i→w.heap.size≤i)∧Keep None w w':=by
 obtain ⟨o,hs,hR,ho⟩:=h.rp
 exact model19 hR
theorem ge_forget (h:Ge M w b css A B S) (hA:A≤cap) (hB:B≤8796093022208) (i:Int):Calls Tryz.prog 63 #[Pt b,I i] w fun e w'=>e=.returned (I (forget S i).1)∧∃M',Af M w b css A B (forget S i).2 M' w':=by
 obtain ⟨o,hs,hR,ho⟩:=h.rp
 exact (forget8 hR h.iq.iz.toWfS h.sz.rs (by have:=h.sz.w; omega) (by have:=h.sz.g; unfold cap at hA; omega) i).mono fun e w' ⟨he,hN⟩=>⟨he,af_nx hR ho hN (h.iq.forget i) (h.sz.forget i)⟩
theorem ge_learn (h:Ge M w b css A B S) (hA:A≤cap) (hB:B≤8796093022208):Calls Tryz.prog 13 #[Pt b] w fun e w'=>∃p c M',e=.returned (.tuple #[.slice p (learnA S).1.length c,I (learnA S).2.1,I (learnA S).2.2])∧Own w' 3 1 p (learnA S).1.length c ((learnA S).1.map I)∧(∀j,ob p j→w.heap.size≤j∧¬M' j)∧Af M w b css (A+1) (B+S.nv+1) (learnS S) M' w':=by
 obtain ⟨o,hs,hR,ho⟩:=h.rp
 have hob:∀{j:Nat} {P:Prop},ob none j→P:=fun {j P} hj=>absurd hj ob_none
 by_cases hc:S.clash=true
 ·have hcf:¬S.clash=false:=by rw [hc]; decide
  have hq':=h.iq.learn (by have:=h.sz.h; unfold cap at hA; omega) (by have:=h.sz.g; unfold cap at hA; omega)
  have hz':=h.sz.learnS h.iq
  refine (learn9 hR h.iq.iz.toWfS hc (lok h.iq h.sz hA hB hc)).mono fun e w' hh=>?_
  rcases hh with ⟨hcl,he,hN⟩ | ⟨hcl,p,c,o',h',he,hO,hf,hR',ha,hk⟩
  ·have e1:learnA S=([],-1,0):=by unfold learnA; rw [if_neg hcf,if_pos hcl]
   have e2:learnS S=deadS S:=by unfold learnS; rw [if_neg hcf,if_pos hcl]
   rw [e2] at hq' hz'
   rw [e1,e2]
   obtain ⟨M',hA'⟩:=af_nx hR ho hN hq' hz'
   exact ⟨none,0,M',he,Own.nil _ _ _,fun j hj=>hob hj,hA'⟩
  ·have e1:learnA S=(shz S,(anz S).1,0):=by unfold learnA; rw [if_neg hcf,if_neg hcl]
   have e2:learnS S=learnT S (anz S).1 (shz S):=by unfold learnS; rw [if_neg hcf,if_neg hcl]
   rw [e2] at hq' hz'
   rw [e1,e2]
   refine ⟨p,c,_,he,hO,fun j hj=>⟨(hf j hj).1,fun q=>q.2 (hf j hj).2⟩,af_of hR ho hR' ha hk hq' hz'⟩
 ·have hcf:S.clash=false:=by cases h1:S.clash<;>simp_all
  have e1:learnA S=([],0,3):=by unfold learnA; rw [if_pos hcf]
  have e2:learnS S=S:=by unfold learnS; rw [if_pos hcf]
  rw [e1,e2]
  refine (V13_calls (some ⟨b,0,none⟩) w (fun v w'=>v=.tuple #[.slice none 0 0,I 0,I 3]∧w'=w) ?_).mono fun e w' ⟨v,he,hv,hw⟩=>⟨none,0,M,by rw [he,hv]; rfl,Own.nil _ _ _,fun j hj=>hob hj,?_⟩
  ·unfold V13
   exact nn_of (ldB_of (x:=S.clash) (by rw [add_mk]; exact hR.self.cell 10) (by rw [hcf]; exact pif_t rfl ⟨rfl,rfl⟩))
  ·subst hw
   exact (Af.same h (Keep.refl _ _)).mono (by omega) (by omega)
def NewG (w:World) (nv:Int) (css:List (List Int)) (q:Option Addr) (v:Int) (w':World):Prop:=
 (q=none∧v=1∧¬FormedF nv css∧Keep None w w')∨
 (FormedF nv css∧v=0∧∃b M,q=some ⟨b,0,none⟩∧Ge M w' b css css.length (css.length*1048577) (newE nv.toNat css)∧(∀i,M i→w.heap.size≤i)∧Keep None w w')
theorem ge_new {Bl:Nat→Prop} {nv:Int} {p:Option Addr} {n c:Nat} (hC:RdC Bl w p n css) (hB:∀j,Bl j→j<w.heap.size) (hn:n≤1048576) (hl:∀es∈css,es.length≤1048576) :
  Calls Tryz.prog 9 #[.agg #[I nv,.slice p n c]] w fun e w'=>∃q v,e=.returned (.tuple #[.pointer q,I v])∧NewG w nv css q v w':=by
 have hn':css.length≤1048576:=by have:=hC.len; omega
 refine (new5 hC hB hn' hl).mono fun e w' ⟨v,he,hh⟩=>?_
 rcases hh with ⟨h1,rfl,h2⟩ | ⟨hf,b,o,h,rfl,hR,hk,ho⟩
 ·exact ⟨none,1,he,Or.inl ⟨rfl,rfl,h1,h2⟩⟩
 ·have hnv:nv.toNat≤1048576:=by have:=hf.2.1; omega
  have hw:∀es∈css,∀x∈es,Wi nv.toNat x:=hf.2.2
  exact ⟨_,0,he,Or.inr ⟨hf,rfl,b,fun i=>i<w'.heap.size∧tMine (o i),rfl,⟨⟨o,h,hR,fun i hi ht=>⟨hi,ht⟩⟩,newE_iq hnv hn' hl hw,newE_sz hnv hn' hl hw,fun i hi=>hi.1⟩,fun i hi=>by
   apply Classical.byContradiction
   intro hlt
   exact hi.2 (ho i (by omega)),hk⟩⟩
end
end Go.Proofs.YtmhjehodfggleaaGreat.Eng

/- How formulas, lists and models come in, where the input is of bounded bulk. -/

set_option linter.unusedVariables false
set_option linter.unusedSimpArgs false
set_option linter.unusedSectionVars false
set_option maxRecDepth 100000
namespace Go.Proofs.YtmhjehodfggleaaGreat.Eng
open Go Go.Proofs.YtmhjehodfggleaaGreat.Vc Go.Proofs.YtmhjehodfggleaaGreat.T Go.ChangeShapes Go.WideShapes Go.ChangeAt Go.RowKit
open Go.Proofs.YtmhjehodfggleaaGreat.Apart (RdL)
theorem cInt:Tryz.prog.cellsOf 3=1:=by kernel_rfl
theorem cInts:Tryz.prog.cellsOf 49=1:=by kernel_rfl
theorem cIntss:Tryz.prog.cellsOf 22=1:=by kernel_rfl
theorem cBool:Tryz.prog.cellsOf 4=1:=by kernel_rfl
theorem cForm:Tryz.prog.cellsOf 24=2:=by kernel_rfl
def i64 (x:Int):Prop:=-9223372036854775808≤x∧x≤9223372036854775807
theorem wf_i64 {x:Int} (h:(Lit.int .i64 x).wf=true):i64 x:=by
 simp [Lit.wf,IntKind.min,IntKind.max,IntKind.signed,IntKind.bits] at h
 exact ⟨h.1,by omega⟩
theorem one_of {W:World} {base:Nat} {t e:TypeId} {v x:Value} (hu:Tryz.prog.underlying t=some (.slice e)) (hv:Value.okWide Tryz.prog W .any base t v) (h:v.cells.toList=[x]):v=x:=by
 cases v with
 | agg cs=>
  unfold Value.okWide at hv
  rw [hu] at hv
  simp [Cell.okWide,Cell.ok,hu] at hv
 | _=>simp [Value.cells] at h; exact h
theorem fitsInt {w:World} {m:Nat} {cs:List Value} (h:Fits Tryz.prog w (m+1) 3 cs):∃n,cs=[I n]∧i64 n:=by
 unfold Fits at h; rw [Tryz.underlying3] at h
 obtain ⟨n,a,b⟩:=h
 exact ⟨n,a,wf_i64 b⟩
theorem fitsBool {w:World} {m:Nat} {cs:List Value} (h:Fits Tryz.prog w (m+1) 4 cs):∃b,cs=[.bool b]:=by
 unfold Fits at h; rw [Tryz.underlying4] at h; exact h
structure Slc {α:Type} (w:World) (k:Nat) (P:List Value→α→Prop) (p:Option Addr) (n c:Nat) (xs:List α):Prop where
 len:xs.length=n
 nc:n≤c
 nil:p=none→c=0
 at_:∀(i:Nat) (x:α),xs[i]?=some x→∃a cs',p=some a∧w.cells? 0 (a.add (i*k)) k=some cs'∧P cs' x
theorem slc_of {α:Type} [Inhabited α] {w:World} {B m mb k:Nat} {t e:TypeId} {cs:List Value} {P:List Value→α→Prop} (hu:Tryz.prog.underlying t=some (.slice e)) (hk:Tryz.prog.cellsOf e=k)
  (hP:∀cs',Fits Tryz.prog w m e cs'→Bk Tryz.prog w B mb e cs'→∃x,P cs' x) (h:Fits Tryz.prog w (m+1) t cs) (hb:Bk Tryz.prog w B (mb+1) t cs):∃p n c xs,cs=[.slice p n c]∧n≤B∧Slc w k P p n c xs:=by
 unfold Fits at h; rw [hu] at h
 unfold Bk at hb; rw [hu] at hb
 dsimp only at h hb
 rcases h with rfl | ⟨a,len,cap,rfl,hl,hm,hx⟩
 ·exact ⟨none,0,0,[],rfl,Nat.zero_le _,rfl,Nat.le_refl _,fun _=>rfl,fun i x hx=>by simp at hx⟩
 ·obtain ⟨hn,hbs⟩:=hb _ _ _ rfl
  have hcell:∀i,i<len→∃x:α,∃cs',w.cells? 0 (a.add (i*k)) k=some cs'∧P cs' x:=fun i hi=>by
   obtain ⟨cs',h1,h2⟩:=hx i (by omega)
   obtain ⟨x,hx⟩:=hP cs' h2 (hbs a rfl i hi _ h1)
   rw [hk] at h1
   exact ⟨x,cs',h1,hx⟩
  refine ⟨some a,len,cap,(List.range len).map fun i=>if hi:i<len then Classical.choose (hcell i hi) else default,rfl,hn,by simp,hl,(fun h=>by cases h),fun i x hx=>?_⟩
  rw [List.getElem?_map] at hx
  by_cases hi:i<len
  ·rw [List.getElem?_range hi] at hx
   simp only [Option.map_some,Option.some.injEq] at hx
   rw [dif_pos hi] at hx
   obtain ⟨cs',h1,h2⟩:=Classical.choose_spec (hcell i hi)
   rw [hx] at h2
   exact ⟨a,cs',rfl,h1,h2⟩
  ·rw [List.getElem?_eq_none (by simpa using hi)] at hx; cases hx
theorem cells_one {w:World} {a:Addr} {v:Value} (h:w.cells? 0 a 1=some [v]):w.cell? a=some v:=cell_of_cells?_one h
abbrev Old (w:World):Nat→Prop:=fun i=>i<w.heap.size
structure LsI (w:World) (p:Option Addr) (n c:Nat) (xs:List Int):Prop where
 rd:RdL w p n xs
 nc:n≤c
 nil:p=none→c=0
 old:∀j,ob p j→0<n→j<w.heap.size
 i64s:∀x∈xs,i64 x
theorem fitsInts {w:World} {m mb B:Nat} {cs:List Value} (h:Fits Tryz.prog w (m+2) 49 cs) (hb:Bk Tryz.prog w B (mb+1) 49 cs):∃p n c xs,cs=[.slice p n c]∧n≤B∧LsI w p n c xs:=by
 obtain ⟨p,n,c,xs,e,hn,hS⟩:=slc_of (P:=fun cs' (x:Int)=>cs'=[I x]∧i64 x) Tryz.underlying49 cInt (fun cs' hf _=>fitsInt hf) h hb
 refine ⟨p,n,c,xs,e,hn,⟨hS.len,fun i x hx=>?_⟩,hS.nc,hS.nil,fun j hj h0=>?_,fun x hx=>?_⟩
 ·obtain ⟨a,cs',h1,h2,rfl,_⟩:=hS.at_ i x hx
  rw [Nat.mul_one] at h2
  exact ⟨a,h1,cells_one h2⟩
 ·obtain ⟨a,rfl,rfl⟩:=hj
  have hl:=hS.len
  obtain ⟨x,hx⟩:=Apart.getE (show 0<xs.length by omega)
  obtain ⟨a',cs',h1,h2,rfl,_⟩:=hS.at_ 0 x hx
  injection h1 with h1; subst h1
  have:=cell_lt (cells_one h2)
  rwa [blk_add] at this
 ·obtain ⟨i,hi⟩:=List.mem_iff_getElem?.1 hx
  obtain ⟨a,cs',_,_,_,h3⟩:=hS.at_ i x hi
  exact h3
structure LsC (w:World) (p:Option Addr) (n c:Nat) (css:List (List Int)):Prop where
 nc:n≤c
 nil:p=none→c=0
 nb:n≤1048576
 lb:∀es∈css,es.length≤1048576∧∀x∈es,i64 x
 rd:RdC (Old w) w p n css
theorem fitsIntss {w:World} {m mb B:Nat} {cs:List Value} (hB:B≤1048576) (h:Fits Tryz.prog w (m+3) 22 cs) (hb:Bk Tryz.prog w B (mb+2) 22 cs):∃p n c css,cs=[.slice p n c]∧LsC w p n c css:=by
 obtain ⟨p,n,c,xs,e,hn,hS⟩:=slc_of (P:=fun cs' (es:List Int)=>∃q m' c',cs'=[.slice q m' c']∧m'≤B∧LsI w q m' c' es) Tryz.underlying22 cInts (fun cs' hf hb'=>by
  obtain ⟨q,m',c',ys,h1,h2,h3⟩:=fitsInts hf hb'
  exact ⟨ys,q,m',c',h1,h2,h3⟩) h hb
 refine ⟨p,n,c,xs,e,hS.nc,hS.nil,by omega,fun es hes=>?_,hS.len,fun i es hi=>?_⟩
 ·obtain ⟨i,hi⟩:=List.mem_iff_getElem?.1 hes
  obtain ⟨a,cs',_,_,q,m',c',_,h2,h3⟩:=hS.at_ i es hi
  exact ⟨by have:=h3.rd.len; omega,h3.i64s⟩
 ·obtain ⟨a,cs',h1,h2,q,m',c',rfl,_,h3⟩:=hS.at_ i es hi
  rw [Nat.mul_one] at h2
  have hc:=cells_one h2
  have:=cell_lt hc
  rw [blk_add] at this
  exact ⟨a,q,m',c',h1,hc,h3.rd,this,h3.old,h3.nil⟩
theorem fitsForm {w:World} {m mb B:Nat} {cs:List Value} (hB:B≤1048576) (h:Fits Tryz.prog w (m+4) 24 cs) (hb:Bk Tryz.prog w B (mb+3) 24 cs):∃nv p n c css,cs=[I nv,.slice p n c]∧i64 nv∧LsC w p n c css:=by
 unfold Fits at h; rw [Tryz.underlying24] at h
 unfold Bk at hb; rw [Tryz.underlying24] at hb
 obtain ⟨hl,h⟩:=h
 rw [cForm] at hl
 match cs,hl with
 | [a0,a1],_=>
  obtain ⟨nv,e0,r0⟩:=fitsInt (m:=m+2) (cs:=[a0]) (by simpa [cInt,cIntss] using h 0 _ rfl)
  obtain ⟨p,n,c,css,e1,r1⟩:=fitsIntss (m:=m) (mb:=mb) hB (cs:=[a1]) (by simpa [cInt,cIntss] using h 1 _ rfl) (by simpa [cInt,cIntss] using hb 1 _ rfl)
  simp only [List.cons.injEq,and_true] at e0 e1
  subst e0 e1
  exact ⟨nv,p,n,c,css,rfl,r0,r1⟩
structure RdB (w:World) (p:Option Addr) (n:Nat) (bs:List Bool):Prop where
 len:bs.length=n
 cell:∀(i:Nat) (x:Bool),bs[i]?=some x→∃a,p=some a∧w.cell? (a.add i)=some (.bool x)∧a.block<w.heap.size
theorem fitsBools {w:World} {m mb B:Nat} {cs:List Value} (h:Fits Tryz.prog w (m+2) 65 cs) (hb:Bk Tryz.prog w B (mb+1) 65 cs):∃p n c xs,cs=[.slice p n c]∧n≤B∧RdB w p n xs:=by
 obtain ⟨p,n,c,xs,e,hn,hS⟩:=slc_of (P:=fun cs' (x:Bool)=>cs'=[.bool x]) Tryz.underlying65 cBool (fun cs' hf _=>fitsBool hf) h hb
 refine ⟨p,n,c,xs,e,hn,hS.len,fun i x hx=>?_⟩
 obtain ⟨a,cs',h1,h2,rfl⟩:=hS.at_ i x hx
 rw [Nat.mul_one] at h2
 have:=cell_lt (cells_one h2)
 rw [blk_add] at this
 exact ⟨a,h1,cells_one h2,this⟩
section
variable {H:Type} {enc:TypeId×Value→H} {W:World} {base:Nat} {v:Value} {d:DataW H} {ps:List MemPlace}
theorem form_of (hv:Value.okWide Tryz.prog W .any base 24 v) (h:DataW.Trod enc Tryz.prog W 0 (fun _=>true) true 24 v d ps) (hb:Rows.uptoBulk d≤1048576) :
  ∃nv p n c css,v=.agg #[I nv,.slice p n c]∧i64 nv∧LsC W p n c css:=by
 obtain ⟨cs,rfl⟩:=agg_of_struct Tryz.underlying24 hv
 obtain ⟨nv,p,n,c,css,e,r⟩:=fitsForm (m:=0) (mb:=0) (Nat.le_refl _) (fits_of h 4) (bk_of h hb 3)
 have hcs:(Value.agg cs).cells.toList=cs.toList:=rfl
 rw [hcs] at e
 obtain rfl:cs=#[I nv,.slice p n c]:=by
  have:=congrArg List.toArray e
  simpa using this
 exact ⟨nv,p,n,c,css,rfl,r⟩
theorem bools_of (hv:Value.okWide Tryz.prog W .any base 65 v) (h:DataW.Trod enc Tryz.prog W 0 (fun _=>true) true 65 v d ps) (hb:Rows.uptoBulk d≤1048576) :
  ∃p n c xs,v=.slice p n c∧n≤1048576∧RdB W p n xs:=by
 obtain ⟨p,n,c,xs,e,r⟩:=fitsBools (m:=0) (mb:=0) (fits_of h 2) (bk_of h hb 1)
 exact ⟨p,n,c,xs,one_of Tryz.underlying65 hv e,r⟩
theorem ints_of (hv:Value.okWide Tryz.prog W .any base 49 v) (h:DataW.Trod enc Tryz.prog W 0 (fun _=>true) true 49 v d ps) (hb:Rows.uptoBulk d≤1048576) :
  ∃p n c xs,v=.slice p n c∧n≤1048576∧LsI W p n c xs:=by
 obtain ⟨p,n,c,xs,e,r⟩:=fitsInts (m:=0) (mb:=0) (fits_of h 2) (bk_of h hb 1)
 exact ⟨p,n,c,xs,one_of Tryz.underlying49 hv e,r⟩
end
end Go.Proofs.YtmhjehodfggleaaGreat.Eng

/- The conditions under which the functions printed here return, as propositions over typed values; each is the machine's own, by the generator's theorem. -/

set_option linter.unusedVariables false
set_option maxRecDepth 100000
namespace Go.Proofs.YtmhjehodfggleaaGreat.T
open Go Go.Proofs.YtmhjehodfggleaaGreat.Vc
def V25 (a0_0:Int) (a0_1:Option Addr) (a0_1n:Nat) (a0_1c:Nat) (a1:Option Addr) (a1n:Nat) (a1c:Nat) (w:World) (R:Value→World→Prop):Prop:=
 alc w [.int .i64 a0_0,.slice a0_1 a0_1n a0_1c] 24 fun b2 w1=>
 ldI .i64 w1 ((⟨b2,0,none⟩:Addr).add 0) fun x4=>
 ldC w1 ((⟨b2,0,none⟩:Addr).add 1) fun x5 x5n x5c=>
 cl Tryz.prog 73 [.agg #[.int .i64 x4,.slice x5 x5n x5c],.slice a1 a1n a1c] w1 fun e7 w2=>∃x6:Bool,e7=Ending.returned (.bool x6)∧
 gd (α:=(Int×(Option Addr×Nat×Nat)×Unit)) x6 (fun k8=>
  ldI .i64 w2 ((⟨b2,0,none⟩:Addr).add 0) fun x9=>
  ldC w2 ((⟨b2,0,none⟩:Addr).add 1) fun x10 x10n x10c=>
  k8 (x9,(x10,x10n,x10c),()) w2) (0,(none,0,0),()) w2 fun x11 w3=>
 gd (α:=Bool) x6 (fun k12=>
  cl Tryz.prog 74 [.agg #[.int .i64 x11.1,.slice x11.2.1.1 x11.2.1.2.1 x11.2.1.2.2],.slice a1 a1n a1c] w3 fun e14 w4=>∃x13:Bool,e14=Ending.returned (.bool x13)∧
  k12 x13 w4) false w3 fun x15 w5=>
 R (.bool (cond x6 x15 false)) w5
def An25:An:=.seq (.leaf) (.seq (.leaf) (.leaf))
theorem V25_eq (a0_0:Int) (a0_1:Option Addr) (a0_1n:Nat) (a0_1c:Nat) (a1:Option Addr) (a1n:Nat) (a1c:Nat) (w:World) (R:Value→World→Prop):evF Tryz.prog Tryz.f25 An25 [.agg #[.int .i64 a0_0,.slice a0_1 a0_1n a0_1c],.slice a1 a1n a1c] w R=V25 a0_0 a0_1 a0_1n a0_1c a1 a1n a1c w R:=by kernel_rfl
theorem V25_calls (a0_0:Int) (a0_1:Option Addr) (a0_1n:Nat) (a0_1c:Nat) (a1:Option Addr) (a1n:Nat) (a1c:Nat) (w:World) (R:Value→World→Prop) (h:V25 a0_0 a0_1 a0_1n a0_1c a1 a1n a1c w R):Calls Tryz.prog 25 #[.agg #[.int .i64 a0_0,.slice a0_1 a0_1n a0_1c],.slice a1 a1n a1c] w fun e w'=>∃v,e=.returned v∧R v w':=
 calls_of_ev (args:=[.agg #[.int .i64 a0_0,.slice a0_1 a0_1n a0_1c],.slice a1 a1n a1c]) Tryz.func25 (Nat.le_of_ble_eq_true (by kernel_rfl)) (by rw [V25_eq]; exact h)
theorem ok25:fnOk Tryz.prog 25=true:=by kernel_rfl
def V73 (a0_0:Int) (a0_1:Option Addr) (a0_1n:Nat) (a0_1c:Nat) (a1:Option Addr) (a1n:Nat) (a1c:Nat) (w:World) (R:Value→World→Prop):Prop:=
 alc w [.int .i64 a0_0,.slice a0_1 a0_1n a0_1c] 24 fun b2 w1=>
 ldI .i64 w1 ((⟨b2,0,none⟩:Addr).add 0) fun x4=>
 ldC w1 ((⟨b2,0,none⟩:Addr).add 1) fun x5 x5n x5c=>
 cl Tryz.prog 42 [.agg #[.int .i64 x4,.slice x5 x5n x5c]] w1 fun e7 w2=>∃x6:Bool,e7=Ending.returned (.bool x6)∧
 gd (α:=Int) x6 (fun k8=>
  ldI .i64 w2 ((⟨b2,0,none⟩:Addr).add 0) fun x9=>
  k8 x9 w2) 0 w2 fun x10 w3=>
 R (.bool (cond x6 ((a1n:Int)==x10) false)) w3
def An73:An:=.seq (.leaf) (.seq (.leaf) (.leaf))
theorem V73_eq (a0_0:Int) (a0_1:Option Addr) (a0_1n:Nat) (a0_1c:Nat) (a1:Option Addr) (a1n:Nat) (a1c:Nat) (w:World) (R:Value→World→Prop):evF Tryz.prog Tryz.f73 An73 [.agg #[.int .i64 a0_0,.slice a0_1 a0_1n a0_1c],.slice a1 a1n a1c] w R=V73 a0_0 a0_1 a0_1n a0_1c a1 a1n a1c w R:=by kernel_rfl
theorem V73_calls (a0_0:Int) (a0_1:Option Addr) (a0_1n:Nat) (a0_1c:Nat) (a1:Option Addr) (a1n:Nat) (a1c:Nat) (w:World) (R:Value→World→Prop) (h:V73 a0_0 a0_1 a0_1n a0_1c a1 a1n a1c w R):Calls Tryz.prog 73 #[.agg #[.int .i64 a0_0,.slice a0_1 a0_1n a0_1c],.slice a1 a1n a1c] w fun e w'=>∃v,e=.returned v∧R v w':=
 calls_of_ev (args:=[.agg #[.int .i64 a0_0,.slice a0_1 a0_1n a0_1c],.slice a1 a1n a1c]) Tryz.func73 (Nat.le_of_ble_eq_true (by kernel_rfl)) (by rw [V73_eq]; exact h)
theorem ok73:fnOk Tryz.prog 73=true:=by kernel_rfl
def V74 (a0_0:Int) (a0_1:Option Addr) (a0_1n:Nat) (a0_1c:Nat) (a1:Option Addr) (a1n:Nat) (a1c:Nat) (w:World) (R:Value→World→Prop):Prop:=
 alc w [.int .i64 a0_0,.slice a0_1 a0_1n a0_1c] 24 fun b2 w1=>
 ldC w1 ((⟨b2,0,none⟩:Addr).add 1) fun x4 x4n x4c=>
 lp (σ:=Int×Unit) (fun s7 w2 k6=>match s7 with
  | (v5,_)=>
  pif (decide (v5<(x4n:Int))) (
   ixA x4 x4n v5 1 fun p10=>
   ldC w2 p10 fun x11 x11n x11c=>
   cl Tryz.prog 116 [.slice x11 x11n x11c,.slice a1 a1n a1c] w2 fun e14 w3=>∃x13:Bool,e14=Ending.returned (.bool x13)∧
   pif (!x13) (
    R (.bool false) w3) (
    k6 ((IntKind.wrap .i64 (v5+1)),()) w3)) (
   R (.bool true) w2)) (0,()) w1
def An74:An:=.seq (.leaf) (.seq (.seq (.leaf) (.blk (.loop [(10,.one (.int .i64))] (.seq (.leaf) (.seq (.cond (.leaf) (.leaf)) (.seq (.blk (.seq (.leaf) (.seq (.leaf) (.cond (.seq (.leaf) (.leaf)) (.leaf))))) (.leaf))))))) (.seq (.leaf) (.leaf)))
theorem V74_eq (a0_0:Int) (a0_1:Option Addr) (a0_1n:Nat) (a0_1c:Nat) (a1:Option Addr) (a1n:Nat) (a1c:Nat) (w:World) (R:Value→World→Prop):evF Tryz.prog Tryz.f74 An74 [.agg #[.int .i64 a0_0,.slice a0_1 a0_1n a0_1c],.slice a1 a1n a1c] w R=V74 a0_0 a0_1 a0_1n a0_1c a1 a1n a1c w R:=by kernel_rfl
theorem V74_calls (a0_0:Int) (a0_1:Option Addr) (a0_1n:Nat) (a0_1c:Nat) (a1:Option Addr) (a1n:Nat) (a1c:Nat) (w:World) (R:Value→World→Prop) (h:V74 a0_0 a0_1 a0_1n a0_1c a1 a1n a1c w R):Calls Tryz.prog 74 #[.agg #[.int .i64 a0_0,.slice a0_1 a0_1n a0_1c],.slice a1 a1n a1c] w fun e w'=>∃v,e=.returned v∧R v w':=
 calls_of_ev (args:=[.agg #[.int .i64 a0_0,.slice a0_1 a0_1n a0_1c],.slice a1 a1n a1c]) Tryz.func74 (Nat.le_of_ble_eq_true (by kernel_rfl)) (by rw [V74_eq]; exact h)
theorem ok74:fnOk Tryz.prog 74=true:=by kernel_rfl
def V116 (a0:Option Addr) (a0n:Nat) (a0c:Nat) (a1:Option Addr) (a1n:Nat) (a1c:Nat) (w:World) (R:Value→World→Prop):Prop:=
 lp (σ:=Int×Unit) (fun s5 w1 k4=>match s5 with
  | (v3,_)=>
  pif (decide (v3<(a0n:Int))) (
   ixA a0 a0n v3 1 fun p8=>
   ldI .i64 w1 p8 fun x9=>
   cl Tryz.prog 103 [.int .i64 x9] w1 fun e12 w2=>∃x11:Int,e12=Ending.returned (.int .i64 x11)∧
   ixA a1 a1n (IntKind.wrap .i64 (x11 - 1)) 1 fun p13=>
   ldB w2 p13 fun x14=>
   pif (x14==(decide (x9>0))) (
    R (.bool true) w2) (
    k4 ((IntKind.wrap .i64 (v3+1)),()) w2)) (
   R (.bool false) w1)) (0,()) w
def An116:An:=.seq (.leaf) (.seq (.seq (.leaf) (.blk (.loop [(9,.one (.int .i64))] (.seq (.leaf) (.seq (.cond (.leaf) (.leaf)) (.seq (.blk (.seq (.leaf) (.seq (.leaf) (.cond (.seq (.leaf) (.leaf)) (.leaf))))) (.leaf))))))) (.seq (.leaf) (.leaf)))
theorem V116_eq (a0:Option Addr) (a0n:Nat) (a0c:Nat) (a1:Option Addr) (a1n:Nat) (a1c:Nat) (w:World) (R:Value→World→Prop):evF Tryz.prog Tryz.f116 An116 [.slice a0 a0n a0c,.slice a1 a1n a1c] w R=V116 a0 a0n a0c a1 a1n a1c w R:=by kernel_rfl
theorem V116_calls (a0:Option Addr) (a0n:Nat) (a0c:Nat) (a1:Option Addr) (a1n:Nat) (a1c:Nat) (w:World) (R:Value→World→Prop) (h:V116 a0 a0n a0c a1 a1n a1c w R):Calls Tryz.prog 116 #[.slice a0 a0n a0c,.slice a1 a1n a1c] w fun e w'=>∃v,e=.returned v∧R v w':=
 calls_of_ev (args:=[.slice a0 a0n a0c,.slice a1 a1n a1c]) Tryz.func116 (Nat.le_of_ble_eq_true (by kernel_rfl)) (by rw [V116_eq]; exact h)
theorem ok116:fnOk Tryz.prog 116=true:=by kernel_rfl
end Go.Proofs.YtmhjehodfggleaaGreat.T

/- Does a model satisfy a formula: the program's own answer. -/

set_option linter.unusedVariables false
set_option linter.unusedSimpArgs false
set_option linter.unusedSectionVars false
set_option maxRecDepth 100000
namespace Go.Proofs.YtmhjehodfggleaaGreat.Eng
open Go Go.Proofs.YtmhjehodfggleaaGreat.Vc Go.Proofs.YtmhjehodfggleaaGreat.T
open Go.Proofs.YtmhjehodfggleaaGreat.Apart (RdL own_rdl wrap_nat getE own_len take_snoc Sl sv New)
open Go.Proofs.YtmhjehodfggleaaGreat.Lits (fl fl_iff)
theorem RdB.keep0 {w w':World} {p:Option Addr} {n:Nat} {bs:List Bool} (h:RdB w p n bs) (hk:Keep None w w'):RdB w' p n bs:=
 ⟨h.len,fun i x hx=>by obtain ⟨a,h1,h2,h3⟩:=h.cell i x hx; exact ⟨a,h1,hk.cell h2 fun h=>h,Nat.lt_of_lt_of_le h3 hk.size⟩⟩
theorem RdB.keep {U:Nat→Prop} {w w':World} {p:Option Addr} {n:Nat} {bs:List Bool} (h:RdB w p n bs) (hk:Keep U w w') (hU:∀j,ob p j→¬U j):RdB w' p n bs:=
 ⟨h.len,fun i x hx=>by obtain ⟨a,h1,h2,h3⟩:=h.cell i x hx; exact ⟨a,h1,hk.cell h2 (by rw [blk_add]; exact hU _ ⟨a,h1,rfl⟩),Nat.lt_of_lt_of_le h3 hk.size⟩⟩
theorem RdB.ix {w:World} {p:Option Addr} {n:Nat} {bs:List Bool} (h:RdB w p n bs) {i:Nat} (hi:i<n) {K:Addr→Prop} (hK:∀a x,bs[i]?=some x→w.cell? a=some (.bool x)→K a):ixA p n (i:Int) 1 K:=by
 obtain ⟨x,hx⟩:=getE (show i<bs.length by have:=h.len; omega)
 obtain ⟨a,rfl,h2,_⟩:=h.cell i x hx
 refine ⟨by omega,by omega,?_⟩
 show K _
 rw [Nat.mul_one,Int.toNat_natCast]
 exact hK _ x hx h2
theorem own_rdb {w:World} {p:Option Addr} {n c:Nat} {bs:List Bool} (h:Own w 4 1 p n c (bs.map Value.bool)):RdB w p n bs:=by
 have hl:bs.length=n:=by have:=h.len; simpa using this
 refine ⟨hl,fun i x hx=>?_⟩
 have hi:=(List.getElem?_eq_some_iff.1 hx).1
 have h':=h
 rcases h with ⟨rfl,rfl,_,_⟩ | ⟨b,cs,rfl,hB,_⟩
 ·omega
 ·refine ⟨⟨b,0,none⟩,rfl,?_,hB.lt⟩
  rw [add_mk,Nat.zero_add,h'.cell _ (by omega),List.getElem?_map,hx]; rfl
def lt (m:List Bool) (x:Int):Prop:=m[x.natAbs - 1]?=some (decide (0<x))
def hol (m:List Bool) (c:List Int):Prop:=∃x∈c,lt m x
theorem holdsS {w:World} {p:Option Addr} {n c:Nat} {cs:List Int} (hC:RdL w p n cs) (hn:n≤17592186044416) {q:Option Addr} {k d:Nat} {m:List Bool} (hm:RdB w q k m) (hk:k≤1048576) (hw:∀x∈cs,Wi k x) :
  Calls Tryz.prog 116 #[.slice p n c,.slice q k d] w fun e w'=>∃r:Bool,e=.returned (.bool r)∧(r=true↔hol m cs)∧Keep None w w':=by
 refine (V116_calls p n c q k d w (fun v w'=>∃r:Bool,v=.bool r∧(r=true↔hol m cs)∧Keep None w w') ?_).mono fun e w' ⟨v,he,r,hv,hk⟩=>⟨r,by rw [he,hv],hk⟩
 unfold V116
 have hll:=hC.len
 refine lp_of (fun s W=>∃i:Nat,s.1=i∧i≤n∧Keep None w W∧¬hol m (cs.take i)) (fun s _=>(n - s.1).toNat) ⟨0,rfl,Nat.zero_le _,Keep.refl _ _,fun ⟨x,hx,_⟩=>by simp at hx⟩ ?_
 rintro ⟨i',⟨⟩⟩ W ⟨i,rfl,hi,kW,hv⟩
 dsimp only
 refine pif_of (fun hlt=>?_) fun hge=>?_
 ·have hlt:i<n:=by simpa using hlt
  rw [wrap_nat i (by omega)]
  refine (hC.keep0 kW).ix hlt fun a x hx ha=>ldI_of ha ?_
  obtain ⟨h0,h1,h2⟩:=hw x (List.mem_of_getElem? hx)
  refine cl_of ok103 (Trail.var52 x _ (by omega)) fun e w2 ⟨he,hw2⟩=>⟨_,he,?_⟩
  subst hw2
  have ev:(if 1≤x.natAbs∧x.natAbs≤1048576 then (x.natAbs:Int) else 0)=x.natAbs:=if_pos ⟨by omega,by omega⟩
  rw [ev]
  have e2:IntKind.wrap .i64 ((x.natAbs:Int) - 1)=((x.natAbs - 1:Nat):Int):=by rw [IntKind.wrap_i64]; omega
  rw [e2]
  refine (hm.keep0 kW).ix (by omega) fun a2 y hy ha2=>ldB_of ha2 ?_
  have hd:decide (x>0)=decide (0<x):=rfl
  rw [hd]
  refine pif_of (fun hq=>⟨true,rfl,⟨fun _=>⟨x,List.mem_of_getElem? hx,?_⟩,fun _=>rfl⟩,kW⟩) fun hq=>⟨⟨i+1,rfl,hlt,kW,?_⟩,by omega⟩
  ·unfold lt; rw [hy]; congr 1; simpa using hq
  ·rw [take_snoc hx]
   rintro ⟨z,hz,ht⟩
   rcases List.mem_append.1 hz with hz | hz
   ·exact hv ⟨z,hz,ht⟩
   ·rw [List.mem_singleton.1 hz] at ht
    unfold lt at ht
    rw [hy] at ht; injection ht with ht
    rw [ht] at hq; simp at hq
 ·have hge:i=n:=by simp at hge; omega
  subst hge
  rw [←hll,List.take_length] at hv
  exact ⟨false,rfl,⟨fun h=>(by cases h),fun h=>absurd h hv⟩,kW⟩
theorem allS {Bl:Nat→Prop} {w:World} {nv:Int} {p:Option Addr} {n c:Nat} {css:List (List Int)} (hC:RdC Bl w p n css) (hn:n≤17592186044416) (hl:∀es∈css,es.length≤17592186044416) {q:Option Addr} {k d:Nat} {m:List Bool} (hm:RdB w q k m) (hk:k≤1048576) (hw:∀es∈css,∀x∈es,Wi k x) :
  Calls Tryz.prog 74 #[.agg #[I nv,.slice p n c],.slice q k d] w fun e w'=>∃r:Bool,e=.returned (.bool r)∧(r=true↔∀es∈css,hol m es)∧Keep None w w':=by
 refine (V74_calls nv p n c q k d w (fun v w'=>∃r:Bool,v=.bool r∧(r=true↔∀es∈css,hol m es)∧Keep None w w') ?_).mono fun e w' ⟨v,he,r,hv,hk⟩=>⟨r,by rw [he,hv],hk⟩
 unfold V74
 have hll:=hC.len
 refine alc_at fun b2 w1 hb2 hB2 k1=>?_
 refine ldC_of (x:=p) (n:=n) (c:=c) (by rw [add_mk]; exact hB2.cell 1) ?_
 refine lp_of (fun s W=>∃i:Nat,s.1=i∧i≤n∧Keep None w W∧∀es∈css.take i,hol m es) (fun s _=>(n - s.1).toNat) ⟨0,rfl,Nat.zero_le _,k1,fun es hx=>by simp at hx⟩ ?_
 rintro ⟨i',⟨⟩⟩ W ⟨i,rfl,hi,kW,hv⟩
 dsimp only
 refine pif_of (fun hlt=>?_) fun hge=>?_
 ·have hlt:i<n:=by simpa using hlt
  rw [wrap_nat i (by omega)]
  obtain ⟨es,hes⟩:=getE (show i<css.length by omega)
  have hem:=List.mem_of_getElem? hes
  refine (hC.keep0 kW).ix hes fun a q2 mm c2 ha hRd _ _=>ldC_of ha ?_
  refine cl_of ok116 (holdsS hRd (by rw [←hRd.len]; exact hl es hem) (hm.keep0 kW) hk (hw es hem)) fun e w2 ⟨r,he,hr,k2⟩=>⟨r,he,?_⟩
  refine pif_of (fun hq=>⟨false,rfl,⟨fun h=>(by cases h),fun h=>?_⟩,kW.then0 k2⟩) fun hq=>⟨⟨i+1,rfl,hlt,kW.then0 k2,fun y hy=>?_⟩,by omega⟩
  ·have:=hr.2 (h es hem)
   rw [this] at hq; cases hq
  ·rw [take_snocN hes] at hy
   rcases List.mem_append.1 hy with hy | hy
   ·exact hv y hy
   ·rw [List.mem_singleton.1 hy]
    exact hr.1 (by simpa using hq)
 ·have hge:i=n:=by simp at hge; omega
  subst hge
  rw [←hll,List.take_length] at hv
  exact ⟨true,rfl,⟨fun _=>hv,fun _=>rfl⟩,kW⟩
theorem fitsS {Bl:Nat→Prop} {w:World} {nv:Int} {p:Option Addr} {n c:Nat} {css:List (List Int)} (hC:RdC Bl w p n css) (hn:n≤17592186044416) (hl:∀es∈css,es.length≤17592186044416) {q:Option Addr} {k d:Nat} :
  Calls Tryz.prog 73 #[.agg #[I nv,.slice p n c],.slice q k d] w fun e w'=>∃r:Bool,e=.returned (.bool r)∧(r=true↔FormedF nv css∧(k:Int)=nv)∧Keep None w w':=by
 refine (V73_calls nv p n c q k d w (fun v w'=>∃r:Bool,v=.bool r∧(r=true↔FormedF nv css∧(k:Int)=nv)∧Keep None w w') ?_).mono fun e w' ⟨v,he,r,hv,hk⟩=>⟨r,by rw [he,hv],hk⟩
 unfold V73
 refine alc_at fun b2 w1 hb2 hB2 k1=>?_
 refine ldI_of (x:=nv) (by rw [add_mk]; exact hB2.cell 0) (ldC_of (x:=p) (n:=n) (c:=c) (by rw [add_mk]; exact hB2.cell 1) ?_)
 refine cl_of ok42 (formed23 (hC.keep0 k1) hn hl) fun e w2 ⟨r,he,hr,k2⟩=>⟨r,he,?_⟩
 cases r with
 | true=>
  refine gd_t rfl (ldI_of (x:=nv) (by rw [add_mk]; exact (hB2.keep0 k2).cell 0) ⟨_,rfl,?_,k1.then0 k2⟩)
  show ((k:Int)==nv)=true↔_
  rw [beq_iff_eq]
  exact ⟨fun h=>⟨hr.1 rfl,h⟩,fun h=>h.2⟩
 | false=>exact gd_f rfl ⟨false,rfl,⟨fun h=>(by cases h),fun h=>absurd (hr.2 h.1) (by decide)⟩,k1.then0 k2⟩
theorem satS {Bl:Nat→Prop} {w:World} {nv:Int} {p:Option Addr} {n c:Nat} {css:List (List Int)} (hC:RdC Bl w p n css) (hn:n≤17592186044416) (hl:∀es∈css,es.length≤17592186044416) {q:Option Addr} {k d:Nat} {m:List Bool} (hm:RdB w q k m) :
  Calls Tryz.prog 25 #[.agg #[I nv,.slice p n c],.slice q k d] w fun e w'=>∃r:Bool,e=.returned (.bool r)∧(r=true↔FormedF nv css∧(k:Int)=nv∧∀es∈css,hol m es)∧Keep None w w':=by
 refine (V25_calls nv p n c q k d w (fun v w'=>∃r:Bool,v=.bool r∧(r=true↔FormedF nv css∧(k:Int)=nv∧∀es∈css,hol m es)∧Keep None w w') ?_).mono fun e w' ⟨v,he,r,hv,hk⟩=>⟨r,by rw [he,hv],hk⟩
 unfold V25
 refine alc_at fun b2 w1 hb2 hB2 k1=>?_
 refine ldI_of (x:=nv) (by rw [add_mk]; exact hB2.cell 0) (ldC_of (x:=p) (n:=n) (c:=c) (by rw [add_mk]; exact hB2.cell 1) ?_)
 refine cl_of ok73 (fitsS (hC.keep0 k1) hn hl) fun e w2 ⟨r,he,hr,k2⟩=>⟨r,he,?_⟩
 cases r with
 | true=>
  obtain ⟨hf,hkn⟩:=hr.1 rfl
  have hkk:k=nv.toNat:=by omega
  refine gd_t rfl (ldI_of (x:=nv) (by rw [add_mk]; exact (hB2.keep0 k2).cell 0) (ldC_of (x:=p) (n:=n) (c:=c) (by rw [add_mk]; exact (hB2.keep0 k2).cell 1) (gd_t rfl ?_)))
  refine cl_of ok74 (allS ((hC.keep0 k1).keep0 k2) hn hl ((hm.keep0 k1).keep0 k2) (by have:=hf.2.1; omega) (by rw [hkk]; exact hf.2.2)) fun e w3 ⟨r2,he2,hr2,k3⟩=>⟨r2,he2,r2,rfl,?_,(k1.then0 k2).then0 k3⟩
  rw [hr2]
  exact ⟨fun h=>⟨hf,hkn,h⟩,fun h=>h.2.2⟩
 | false=>exact gd_f rfl (gd_f rfl ⟨false,rfl,⟨fun h=>(by cases h),fun h=>absurd (hr.2 ⟨h.1,h.2.1⟩) (by decide)⟩,k1.then0 k2⟩)
end Go.Proofs.YtmhjehodfggleaaGreat.Eng

/- An Engine in plain: its learnt clauses through its methods; its model satisfies its clauses. -/

set_option linter.unusedVariables false
set_option linter.unusedSimpArgs false
set_option linter.unusedSectionVars false
set_option maxRecDepth 100000
namespace Go.Proofs.YtmhjehodfggleaaGreat.Eng
open Go Go.Proofs.YtmhjehodfggleaaGreat.Vc Go.Proofs.YtmhjehodfggleaaGreat.T
open Go.Proofs.YtmhjehodfggleaaGreat.Trail (E St ownB upto freeA)
open Go.Proofs.YtmhjehodfggleaaGreat.Apart (getE)
variable {css:List (List Int)} {S S':ES}
theorem learnts_same (h1:S'.learnts=S.learnts) (h2:∀k∈S.learnts,heldLits S' k=heldLits S k):learntsS S'=learntsS S:=by
 unfold learntsS
 rw [h1]
 exact List.map_congr_left h2
theorem held_fr (hf:Fr S S') (k:Nat):heldLits S' k=heldLits S k:=by
 unfold heldLits
 cases h:S'.H[k]? with
 | none=>
  have:=List.getElem?_eq_none_iff.1 h
  rw [hf.hlen] at this
  rw [List.getElem?_eq_none_iff.2 this]
 | some d'=>
  obtain ⟨d,g1,g2,_⟩:=hf.hls k d' h
  rw [g1]; exact g2
theorem learnts_spread (hz:Iz S):learntsS (spread S).1=learntsS S:=by
 have hf:=hz.toInv.spread.2
 exact learnts_same hf.learnts fun k _=>held_fr hf k
theorem learnts_dec (l:Int):learntsS (decS S l)=learntsS S:=by unfold decS; split<;>rfl
theorem learnts_restart:learntsS (restart S).2=learntsS S:=by unfold restart; split<;>rfl
theorem learnts_dead:learntsS (deadS S)=learntsS S:=rfl
theorem learnts_learn (hw:WfS S) (back:Int) (s:List Int):learntsS (learnT S back s)=learntsS S++[s]:=by
 obtain ⟨g1,_,_,g7⟩:=eyes_G S s
 obtain ⟨dn,n1,n2,_⟩:=eyes_new S s
 have e1:(learnT S back s).learnts=S.learnts++[S.H.length]:=g7
 have e2:∀k,heldLits (learnT S back s) k=heldLits (eyesS S s) k:=fun k=>rfl
 unfold learntsS
 rw [e1,List.map_append]
 congr 1
 ·refine List.map_congr_left fun k hk=>?_
  obtain ⟨d,hd⟩:=getE (hw.le k hk)
  rw [e2,held_at (g1 k d hd),held_at hd]
 ·show [heldLits (learnT S back s) S.H.length]=[s]
  rw [e2,held_at n1,n2]
theorem forget_cases (S:ES) (i:Int):((forget S i).1≠0∧(forget S i).2=S)∨∃(k:Nat) (d:Hd),S.rest=true∧0≤i∧i<S.learnts.length∧S.learnts[i.toNat]?=some k∧S.H[k]?=some d∧lockB S d=false∧forget S i=(0,forgetT S i.toNat k d):=by
 unfold forget
 split
 ·exact Or.inl ⟨(by decide:(3:Int)≠0),rfl⟩
 ·rename_i h1
  split
  ·exact Or.inl ⟨(by decide:(2:Int)≠0),rfl⟩
  ·rename_i h2
   split
   ·exact Or.inl ⟨(by decide:(2:Int)≠0),rfl⟩
   ·rename_i k hk
    split
    ·exact Or.inl ⟨(by decide:(2:Int)≠0),rfl⟩
    ·rename_i d hd
     split
     ·exact Or.inl ⟨(by decide:(160:Int)≠0),rfl⟩
     ·rename_i h3
      refine Or.inr ⟨k,d,by cases h:S.rest<;>simp_all,by omega,by omega,hk,hd,by simpa using h3,rfl⟩
theorem map_erase {α β:Type} (f:α→β):∀(l:List α) (i:Nat),(l.eraseIdx i).map f=(l.map f).eraseIdx i
 | [],i=>by simp
 | a :: l,0=>rfl
 | a :: l,i+1=>by
  rw [List.eraseIdx_cons_succ,List.map_cons,List.map_cons,List.eraseIdx_cons_succ,map_erase f l i]
theorem learnts_gone {i k:Nat} {d:Hd} (hd:S.H[k]?=some d):learntsS (forgetT S i k d)=(learntsS S).eraseIdx i:=by
 have e:∀j,heldLits (forgetT S i k d) j=heldLits S j:=fun j=>by
  show ((S.H.set k {d with gone:=true})[j]?.map fun d=>d.ls).getD []=(S.H[j]?.map fun d=>d.ls).getD []
  rw [List.getElem?_set]
  by_cases hkj:k=j
  ·subst hkj
   rw [if_pos rfl,if_pos (List.getElem?_eq_some_iff.1 hd).1,hd]; rfl
  ·rw [if_neg hkj]
 have e3:heldLits (forgetT S i k d)=heldLits S:=funext e
 unfold learntsS
 rw [e3]
 show (S.learnts.eraseIdx i).map _=_
 exact map_erase _ _ _
theorem learnts_forget (i:Int):learntsS (forget S i).2=if (forget S i).1=0 then (learntsS S).eraseIdx i.toNat else learntsS S:=by
 rcases forget_cases S i with ⟨h1,h2⟩ | ⟨k,d,_,_,_,_,hd,_,e⟩
 ·rw [if_neg h1,h2]
 ·rw [e,if_pos rfl]; exact learnts_gone hd
theorem learnts_forget_sub (i:Int):∀c∈learntsS (forget S i).2,c∈learntsS S:=fun c hc=>by
 rw [learnts_forget] at hc
 split at hc
 ·exact List.mem_of_mem_eraseIdx hc
 ·exact hc
theorem dead_spread (hz:Iz S):(spread S).1.dead=S.dead:=hz.toInv.spread.2.dead
theorem dead_dec (l:Int):(decS S l).dead=S.dead:=by unfold decS; split<;>rfl
theorem dead_restart:(restart S).2.dead=S.dead:=by unfold restart; split<;>rfl
theorem dead_forget (i:Int):(forget S i).2.dead=S.dead:=by
 unfold forget
 split
 ·rfl
 ·split
  ·rfl
  ·split
   ·rfl
   ·split
    ·rfl
    ·split<;>rfl
theorem learnS_cases (h:Iq css S):(S.clash=false∧learnS S=S)∨(S.clash=true∧(anz S).2=[]∧S.L=[]∧shz S=[]∧learnS S=deadS S)∨(S.clash=true∧(anz S).2≠[]∧Lf S (anz S).1 (shz S)∧learnS S=learnT S (anz S).1 (shz S)):=by
 by_cases hc:S.clash=true
 ·have hcf:¬S.clash=false:=by rw [hc]; decide
  rcases learn_ans h.iz h.lz hc with ⟨e,hL,_⟩ | ⟨e,_,_,hf⟩
  ·exact Or.inr (Or.inl ⟨hc,e,hL,by unfold shz; rw [e]; rfl,by unfold learnS; rw [if_neg hcf,if_pos e]⟩)
  ·exact Or.inr (Or.inr ⟨hc,e,hf,by unfold learnS; rw [if_neg hcf,if_neg e]⟩)
 ·have hcf:S.clash=false:=by cases h1:S.clash<;>simp_all
  exact Or.inl ⟨hcf,by unfold learnS; rw [if_pos hcf]⟩
structure Tru (T:Int→Prop) (css:List (List Int)):Prop where
 no:∀x,T x→¬T (-x)
 tot:∀x,x≠0→T x∨T (-x)
 cl:∀c∈css,∃x∈c,T x
theorem learn_mo (h:Iq css S) {T:Int→Prop} (hT:Tru T css) (hM:Mo T S) (hd:S.dead=false):Mo T (learnS S)∧(learnS S).dead=false:=by
 rcases learnS_cases h with ⟨_,e⟩ | ⟨hc,_,_,e2,e⟩ | ⟨hc,_,hf,e⟩
 ·rw [e]; exact ⟨hM,hd⟩
 ·have:=learn_true h hc hT.no hT.tot hT.cl hM (by rw [e2]; intro x hx; cases hx)
  rw [e2] at this
  obtain ⟨x,hx,_⟩:=this
  cases hx
 ·rw [e]
  refine ⟨fun c hc'=>?_,(eyes_fl S (shz S)).2.2.2.1.trans hd⟩
  rw [learnts_learn h.iz.toWfS] at hc'
  rcases List.mem_append.1 hc' with q | q
  ·exact hM c q
  ·rw [List.mem_singleton.1 q]
   exact learn_true h hc hT.no hT.tot hT.cl hM fun x hx=>(hf.wi x hx).1
theorem all_known (hs:StE S) (hn:S.nv≤S.R.length) {v:Nat} (h1:1≤v) (h2:v≤S.nv):∃e∈S.R,e.lit.natAbs=v:=by
 apply Classical.byContradiction
 intro hno
 have hv:v∉S.R.map fun e=>e.lit.natAbs:=fun hm=>by
  obtain ⟨e,he,hl⟩:=List.mem_map.1 hm
  exact hno ⟨e,he,hl⟩
 have hin:v∈(List.range S.nv).map (·+1):=List.mem_map.2 ⟨v - 1,List.mem_range.2 (by omega),by omega⟩
 have:=nodup_len (m:=((List.range S.nv).map (·+1)).erase v) hs.nodup fun x hx=>by
  obtain ⟨e,he,hl⟩:=List.mem_map.1 hx
  have hw:=own_wi (hs.own e he)
  obtain ⟨q0,q1,q2⟩:=hw
  refine (List.mem_erase_of_ne (fun (e':x=v)=>hv (e' ▸ hx))).2 (List.mem_map.2 ⟨x - 1,List.mem_range.2 ?_,?_⟩)
  ·rw [←hl]; omega
  ·rw [←hl]; omega
 rw [List.length_erase_of_mem hin,List.length_map,List.length_map,List.length_range] at this
 omega
theorem model_at {m:List Bool} (hm:modelS S=some m):S.rest=true∧S.nv≤S.R.length∧m.length=S.nv∧∀i,i<S.nv→m[i]?=some (modB S i):=by
 rw [modelS_eq] at hm
 split at hm
 ·cases hm
 ·rename_i h
  rw [not_or] at h
  injection hm with hm
  subst hm
  refine ⟨by cases h1:S.rest<;>simp_all,by omega,by simp,fun i hi=>?_⟩
  rw [List.getElem?_map,List.getElem?_range hi]; rfl
theorem model_lit (hs:StE S) {m:List Bool} (hm:modelS S=some m) {e:E} (he:e∈S.R):lt m e.lit:=by
 obtain ⟨_,_,_,h4⟩:=model_at hm
 obtain ⟨q0,q1,q2⟩:=own_wi (hs.own e he)
 unfold lt
 rw [h4 _ (by omega)]
 congr 1
 obtain ⟨v1,v2⟩:=vl_mem hs he
 unfold modB
 by_cases hp:0<e.lit
 ·have:((e.lit.natAbs - 1:Nat):Int)+1=e.lit:=by omega
  rw [this,v1]; simp [hp]
 ·have:((e.lit.natAbs - 1:Nat):Int)+1=-e.lit:=by omega
  rw [this,v2]; simp [hp]
theorem model_sat (h:Iq css S) {m:List Bool} (hm:modelS S=some m):∀c∈allC css S,hol m c:=by
 intro c hc
 obtain ⟨h1,h2,_,h4⟩:=model_at hm
 have hkn:∀x∈c,∃e∈S.R,e.lit=x∨e.lit=-x:=fun x hx=>by
  obtain ⟨q0,q1,q2⟩:=all_wi h hc x hx
  obtain ⟨e,he,hl⟩:=all_known h.iz.st h2 (v:=x.natAbs) (by omega) (by omega)
  exact ⟨e,he,by omega⟩
 rcases rest_closed h h1 (d:=S.L.length) (by omega) c hc with ⟨x,hx,hnx⟩ | ⟨x,hx,hxt⟩ | ⟨x,hx,_,_,_,hnx,_⟩
 ·obtain ⟨e,he,hl | hl⟩:=hkn x hx
  ·exact ⟨x,hx,hl ▸ model_lit h.iz.st hm he⟩
  ·exact ⟨-x,hnx,hl ▸ model_lit h.iz.st hm he⟩
 ·obtain ⟨e,he,hl,_⟩:=mem_litsTo.1 hxt
  exact ⟨x,hx,hl ▸ model_lit h.iz.st hm he⟩
 ·obtain ⟨e,he,hl | hl⟩:=hkn x hx
  ·exact ⟨x,hx,hl ▸ model_lit h.iz.st hm he⟩
  ·exact absurd (mem_litsTo.2 ⟨e,he,hl,(h.iz.st.lvl e he).2⟩) hnx
end Go.Proofs.YtmhjehodfggleaaGreat.Eng

/- The conditions under which the functions printed here return, as propositions over typed values; each is the machine's own, by the generator's theorem. -/

set_option linter.unusedVariables false
set_option maxRecDepth 100000
namespace Go.Proofs.YtmhjehodfggleaaGreat.T
open Go Go.Proofs.YtmhjehodfggleaaGreat.Vc
def V32 (a0:Option Addr) (w:World) (R:Value→World→Prop):Prop:=
 nn a0 fun p3=>
 ldB w (p3.add 10) fun x4=>
 gd (α:=Addr) (!x4) (fun k5=>
  nn a0 fun p6=>
  k5 p6 w) ⟨0,0,none⟩ w fun x7 w1=>
 gd (α:=Bool) (!x4) (fun k8=>
  ldB w1 (x7.add 11) fun x9=>
  k8 x9 w1) false w1 fun x10 w2=>
 pif (cond x4 true x10) (
  R (.int .i64 3) w2) (
  cl Tryz.prog 59 [.pointer a0,.int .i64 0] w2 fun e13 w3=>e13=Ending.returned (.tuple #[])∧
  nn a0 fun p15=>
  st w3 ((p15.add 9).add 0) (.bool false) fun w4=>
  R (.int .i64 0) w4)
def An32:An:=.seq (.leaf) (.seq (.seq (.leaf) (.cond (.seq (.leaf) (.leaf)) (.leaf))) (.seq (.leaf) (.seq (.leaf) (.seq (.leaf) (.leaf)))))
theorem V32_eq (a0:Option Addr) (w:World) (R:Value→World→Prop):evF Tryz.prog Tryz.f32 An32 [.pointer a0] w R=V32 a0 w R:=by kernel_rfl
theorem V32_calls (a0:Option Addr) (w:World) (R:Value→World→Prop) (h:V32 a0 w R):Calls Tryz.prog 32 #[.pointer a0] w fun e w'=>∃v,e=.returned v∧R v w':=
 calls_of_ev (args:=[.pointer a0]) Tryz.func32 (Nat.le_of_ble_eq_true (by kernel_rfl)) (by rw [V32_eq]; exact h)
theorem ok32:fnOk Tryz.prog 32=true:=by kernel_rfl
def V36 (a0:Option Addr) (w:World) (R:Value→World→Prop):Prop:=
 nn a0 fun p3=>
 ldV w (p3.add 7) fun x4=>
  clM Tryz.prog (x4) "depot/engine.all" [] w fun e6 w1 => ∃ (x5 : Option Addr) (x5n x5c : Nat), e6 = Ending.returned (.slice x5 x5n x5c) ∧
 R (.slice x5 x5n x5c) w1
def An36:An:=.seq (.leaf) (.seq (.leaf) (.leaf))
theorem V36_eq (a0:Option Addr) (w:World) (R:Value→World→Prop):evF Tryz.prog Tryz.f36 An36 [.pointer a0] w R=V36 a0 w R:=by kernel_rfl
theorem V36_calls (a0:Option Addr) (w:World) (R:Value→World→Prop) (h:V36 a0 w R):Calls Tryz.prog 36 #[.pointer a0] w fun e w'=>∃v,e=.returned v∧R v w':=
 calls_of_ev (args:=[.pointer a0]) Tryz.func36 (Nat.le_of_ble_eq_true (by kernel_rfl)) (by rw [V36_eq]; exact h)
theorem ok36:fnOk Tryz.prog 36=true:=by kernel_rfl
def V204 (a0:Option Addr) (w:World) (R:Value→World→Prop):Prop:=
 nn a0 fun p4=>
 ldC w (p4.add 0) fun x5 x5n x5c=>
 lp (σ:=(Option Addr×Nat×Nat)×Int×Unit) (fun s9 w1 k8=>match s9 with
  | ((v6,v6n,v6c),v7,_)=>
  pif (decide (v7<(x5n:Int))) (
   ixA x5 x5n v7 2 fun p12=>
   ldB w1 (p12.add 0) fun x13=>
   ldC w1 (p12.add 1) fun x14 x14n x14c=>
   alc w1 [.bool false,.slice none 0 0] 123 fun b15 w2=>
   st w2 ((⟨b15,0,none⟩:Addr).add 0) (.bool x13) fun w3=>
   st w3 ((⟨b15,0,none⟩:Addr).add 1) (.slice x14 x14n x14c) fun w4=>
   ldB (World.drew w4) ((⟨b15,0,none⟩:Addr).add 0) fun x16=>
   ldC (World.drew w4) ((⟨b15,0,none⟩:Addr).add 1) fun x17 x17n x17c=>
   cl Tryz.prog 56 [.slice x17 x17n x17c] (World.drew w4) fun e19 w5=>∃(x18:Option Addr) (x18n x18c:Nat),e19=Ending.returned (.slice x18 x18n x18c)∧
   (
    ldB w5 ((⟨b15,0,none⟩:Addr).add 0) fun x20=>
    ((.bool x20:Value)=.bool x16))∧
   alc w5 [.bool x16,.slice x18 x18n x18c] 123 fun b21 w6=>
   ∃(x22:Option Addr) (x22n x22c:Nat),∃w7:World,(Builtin.append_ #[78,78] 78 #[.slice v6 v6n v6c,.slice (some (⟨b21,0,none⟩:Addr)) 1 1]).run Tryz.prog w6=.ok (.slice x22 x22n x22c) w7∧
   k8 ((x22,x22n,x22c),(IntKind.wrap .i64 (v7+1)),()) w7) (
   R (.slice v6 v6n v6c) w1)) ((none,0,0),0,()) w
def An204:An:=.seq (.leaf) (.seq (.leaf) (.seq (.seq (.leaf) (.blk (.loop [(3,.one (.slc)),(11,.one (.int .i64))] (.seq (.leaf) (.seq (.cond (.leaf) (.leaf)) (.seq (.blk (.seq (.leaf) (.draw [0,0,2,0,8,24,62,126,255,511]))) (.leaf))))))) (.seq (.leaf) (.leaf))))
theorem V204_eq (a0:Option Addr) (w:World) (R:Value→World→Prop):evF Tryz.prog Tryz.f204 An204 [.pointer a0] w R=V204 a0 w R:=by kernel_rfl
theorem V204_calls (a0:Option Addr) (w:World) (R:Value→World→Prop) (h:V204 a0 w R):Calls Tryz.prog 204 #[.pointer a0] w fun e w'=>∃v,e=.returned v∧R v w':=
 calls_of_ev (args:=[.pointer a0]) Tryz.func204 (Nat.le_of_ble_eq_true (by kernel_rfl)) (by rw [V204_eq]; exact h)
theorem ok204:fnOk Tryz.prog 204=true:=by kernel_rfl
end Go.Proofs.YtmhjehodfggleaaGreat.T

/- An Engine in memory: it begins anew. -/

set_option linter.unusedVariables false
set_option linter.unusedSimpArgs false
set_option linter.unusedSectionVars false
set_option maxRecDepth 100000
namespace Go.Proofs.YtmhjehodfggleaaGreat.Eng
open Go Go.Proofs.YtmhjehodfggleaaGreat.Vc Go.Proofs.YtmhjehodfggleaaGreat.T
open Go.Proofs.YtmhjehodfggleaaGreat.Apart (RdL own_rdl wrap_nat getE own_len Sl sv New LL)
open Go.Proofs.YtmhjehodfggleaaGreat.Arn (words)
theorem restart32 {w:World} {b:Nat} {o:Nat→Int} {h:Hs} {S:ES} (hR:Rp noEx w b o h S) :
  Calls Tryz.prog 32 #[Pt b] w fun e w'=>e=.returned (I (restart S).1)∧Nx tMine noEx w b o h (restart S).2 w':=by
 refine (V32_calls (some ⟨b,0,none⟩) w (fun v w'=>v=I (restart S).1∧Nx tMine noEx w b o h (restart S).2 w') ?_).mono fun e w' ⟨v,he,hv,hk⟩=>⟨by rw [he,hv],hk⟩
 unfold V32
 refine nn_of (ldB_of (x:=S.clash) (by rw [add_mk]; exact hR.self.cell 10) ?_)
 by_cases hdc:(S.clash || S.dead)=true
 ·have es:restart S=(3,S):=by unfold restart; rw [if_pos hdc]
  rw [es]
  cases hc:S.clash with
  | true=>exact gd_f rfl (gd_f rfl (pif_t rfl ⟨rfl,Nx.refl hR⟩))
  | false=>
   have hd:S.dead=true:=by rw [hc] at hdc; simpa using hdc
   exact gd_t rfl (nn_of (gd_t rfl (ldB_of (x:=S.dead) (by rw [add_mk]; exact hR.self.cell 11) (pif_t (by rw [hd]; rfl) ⟨rfl,Nx.refl hR⟩))))
 have hc:S.clash=false:=by cases hc:S.clash with
  | true=>rw [hc] at hdc; exact absurd rfl hdc
  | false=>rfl
 have hd:S.dead=false:=by cases hd:S.dead with
  | true=>rw [hc,hd] at hdc; exact absurd rfl hdc
  | false=>rfl
 have es:restart S=(0,{cutS S 0 with rest:=false}):=by unfold restart; rw [if_neg hdc]
 rw [es,hc]
 refine gd_t rfl (nn_of (gd_t rfl (ldB_of (x:=S.dead) (by rw [add_mk]; exact hR.self.cell 11) (pif_f (by rw [hd]; rfl) ?_))))
 refine cl_of ok59 (cut47 hR (k:=0) (by omega) (by omega)) fun e w3 ⟨he,hN⟩=>⟨he,nn_of ?_⟩
 rw [add_mk,add_mk]
 obtain ⟨o1,h1,r1,a1,k1,e1⟩:=hN
 refine st_of r1.self (by simp) rfl fun w4 hB4 k4 z4=>⟨rfl,?_⟩
 have hk4:Keep (fun i=>tMine (o1 i)) w3 w4:=k4.mono fun j _ hj=>by
  rw [show j=b from hj,r1.selfO]; unfold tMine; decide
 have r2:=r1.setSelf (hd:=(cutS S 0).head) (r:=false) (c:=(cutS S 0).clash) (d:=(cutS S 0).dead) (x:=(cutS S 0).bad) k4 hB4 z4
 have k1':Keep (fun i=>tMine (o i)) w w3:=k1.mono fun j _ hj=>tput_mine hj
 have kk:Keep (fun i=>tMine (o i)) w w4:=keep_ag k1' a1 hk4
 exact ⟨o1,h1,r2,a1,kk,e1⟩
section
variable {M M':Nat→Prop} {w w':World} {b:Nat} {css:List (List Int)} {A B A' B':Nat} {S S':ES}
theorem ge_restart (h:Ge M w b css A B S):Calls Tryz.prog 32 #[Pt b] w fun e w'=>e=.returned (I (restart S).1)∧∃M',Af M w b css A B (restart S).2 M' w':=by
 obtain ⟨o,hs,hR,ho⟩:=h.rp
 exact (restart32 hR).mono fun e w' ⟨he,hN⟩=>⟨he,af_nx hR ho hN h.iq.restart h.sz.restart⟩
end
end Go.Proofs.YtmhjehodfggleaaGreat.Eng
