/- The verification-condition generator, ninth part: that a region comes to the same in whatever order Go makes it. -/

import Derived.Test.YtmhjehodfggleaaGreatMVcH
import Derived.Below
import Derived.Test.YtmhjehodfggleaaGreatRows
import Derived.WalkKit
import Derived.ProofKit
import Derived.OpenShut
import Derived.ShutString
import Derived.ChangeOld
import Derived.Carry
import Derived.SizedLaws
import Derived.Deep.Slices
import Derived.JoinedCond
import Derived.Laws.AppendOwn
import Derived.Test.YtmhjehodfggleaaGreatProg
set_option linter.unusedVariables false
set_option linter.unusedSimpArgs false
namespace Go.Proofs.YtmhjehodfggleaaGreat.Vc
open Go
section
variable {P:Program} {n:Nat} {ops:Array Oper} {bm:List Nat}
theorem subB_mk {x y:Nat} (h:∀j,hasB x j=true→hasB y j=true):subB x y=true:=by
 have:x&&& y=x:=Nat.eq_of_testBit_eq fun j=>by
  rw [Nat.testBit_and]
  cases hx:x.testBit j with
  | false=>simp
  | true=>simp [show y.testBit j=true from h j hx]
 simp only [subB,this]
 exact Nat.beq_refl x
structure Rel (ops:Array Oper) (listed:Array Bool) (D:Nat):Prop where
 size:listed.size=ops.size
 bit:∀i,i<ops.size→listed[i]?=some (hasB D i)
 lt:∀i,hasB D i=true→i<ops.size
theorem Rel.set {listed:Array Bool} {D i:Nat} (h:Rel ops listed D) (hi:i<ops.size):Rel ops (listed.setIfInBounds i true) (addB D i):=by
 refine ⟨by simp [h.size],fun j hj=>?_,fun j hj=>?_⟩
 ·rw [hasB_add]
  by_cases hij:i=j
  ·subst hij; simp [h.size,hi]
  ·simp only [Array.getElem?_setIfInBounds_ne hij,h.bit j hj,hij,decide_false,Bool.or_false]
 ·rw [hasB_add] at hj
  simp only [Bool.or_eq_true,decide_eq_true_eq] at hj
  rcases hj with hj | rfl
  ·exact h.lt j hj
  ·exact hi
theorem Rel.ready {listed:Array Bool} {D:Nat} (h:Rel ops listed D) {i:Nat} : i∈Region.ready .any ops listed↔∃o,ops[i]?=some o∧rdyB D i o=true:=by
 have hget:∀j b,j<ops.size→listed.getD j b=hasB D j:=fun j b hj=>by
  simp only [Array.getD_eq_getD_getElem?,h.bit j hj,Option.getD_some]
 have hout:∀j b,¬j<ops.size→listed.getD j b=b:=fun j b hj=>by
  simp only [Array.getD_eq_getD_getElem?]
  rw [Array.getElem?_eq_none (by rw [h.size]; omega)]; rfl
 simp only [Region.ready,List.mem_filter,List.mem_range,Bool.and_eq_true,Bool.not_eq_true']
 constructor
 ·rintro ⟨hi,h1,h2⟩
  cases ho:ops[i]? with
  | none=>simp [ho] at h2
  | some o=>
   refine ⟨o,rfl,?_⟩
   rw [ho] at h2
   simp only [Option.map_some,Option.getD_some] at h2
   rw [hget i true hi] at h1
   simp only [rdyB,h1,Bool.not_false,Bool.true_and]
   refine subB_mk fun j hj=>?_
   obtain ⟨e,he,hb,rfl⟩:=predM_spec' hj
   have:=Array.all_eq_true'.1 h2 e he
   rw [hb] at this
   simp only [Bool.not_true,Bool.false_or] at this
   by_cases hlt:e.on<ops.size
   ·rwa [hget e.on false hlt] at this
   ·rw [hout e.on false hlt] at this; cases this
 ·rintro ⟨o,ho,hr⟩
  have hi:i<ops.size:=(Array.getElem?_eq_some_iff.1 ho).1
  simp only [rdyB,Bool.and_eq_true,Bool.not_eq_true'] at hr
  refine ⟨hi,by rw [hget i true hi]; exact hr.1,?_⟩
  rw [ho]
  simp only [Option.map_some,Option.getD_some]
  refine Array.all_eq_true'.2 fun e he=>?_
  cases hb:Region.binds .any e with
  | false=>rfl
  | true=>
   simp only [Bool.not_true,Bool.false_or]
   have hj:=subB_spec hr.2 (predM_spec he hb)
   rw [hget e.on false (h.lt _ hj)]; exact hj
def leftN (ops:Array Oper) (D:Nat):Nat:=((List.range ops.size).filter fun i=>!(hasB D i)).length
theorem leftN_add {D i:Nat} (hi:i<ops.size) (hD:hasB D i=false):leftN ops (addB D i)+1=leftN ops D:=by
 unfold leftN
 have key:∀l:List Nat,l.Nodup→i∈l→(l.filter fun j=>!(hasB (addB D i) j)).length+1=(l.filter fun j=>!(hasB D j)).length:=by
  intro l
  induction l with
  | nil=>intro _ h; cases h
  | cons x r ih=>
   intro hnd hm
   have hnd':=List.nodup_cons.1 hnd
   by_cases hx:x=i
   ·subst hx
    have hsame:(r.filter fun j=>!(hasB (addB D x) j))=r.filter fun j=>!(hasB D j):=by
     apply List.filter_congr
     intro j hj
     have hne:x≠j:=fun e=>hnd'.1 (e ▸ hj)
     simp [hasB_add,hne]
    rw [List.filter_cons,List.filter_cons,hsame]
    simp [hasB_add,hD]
   ·have hm':i∈r:=by rcases List.mem_cons.1 hm with h | h; exact absurd h.symm hx; exact h
    have:=ih hnd'.2 hm'
    rw [List.filter_cons,List.filter_cons]
    have hb:hasB (addB D i) x=hasB D x:=by simp [hasB_add,Ne.symm hx]
    rw [hb]
    cases hasB D x<;>simp<;>omega
 exact key _ List.nodup_range (List.mem_range.2 hi)
theorem leftN_zero {D:Nat} (h:leftN ops D=0):∀i,i<ops.size→hasB D i=true:=by
 intro i hi
 unfold leftN at h
 have:=List.filter_eq_nil_iff.1 (List.eq_nil_of_length_eq_zero h) i (List.mem_range.2 hi)
 simpa using this
theorem acy_ready {listed:Array Bool} {D:Nat} (hac:acyOk ops=true) (h:Rel ops listed D) (hr:Region.ready .any ops listed=[]):∀i,i<ops.size→hasB D i=true:=by
 intro i
 induction i using Nat.strongRecOn with
 | _ i ih=>
  intro hi
  cases hb:hasB D i with
  | true=>rfl
  | false=>
   exfalso
   have ho:∃o,ops[i]?=some o:=⟨ops[i],Array.getElem?_eq_getElem hi⟩
   obtain ⟨o,ho⟩:=ho
   have h1:=List.all_eq_true.1 hac i (List.mem_range.2 hi)
   rw [ho] at h1
   have hm:i∈Region.ready .any ops listed:=h.ready.2 ⟨o,ho,by
    simp only [rdyB,hb,Bool.not_false,Bool.true_and]
    refine subB_mk fun j hj=>?_
    have hlt:predM o<2 ^ i:=Nat.le_of_ble_eq_true h1
    have hji:j<i:=Classical.byContradiction fun hge=>by
     have:predM o<2 ^ j:=Nat.lt_of_lt_of_le hlt (Nat.pow_le_pow_right (by omega) (by omega))
     have:=Nat.testBit_lt_two_pow this
     unfold hasB at hj; rw [this] at hj; cases hj
    exact ih j hji (by omega)⟩
   rw [hr] at hm; cases hm
theorem edge_spec {i j:Nat} {o:Oper} (ho:ops[i]?=some o):edge ops i j=hasB (predM o) j:=by simp [edge,ho]
theorem uniM_spec {i j:Nat} : ∀{k:Nat},hasB (uniM ops bm i k) j=true→edge ops i j=true∨∃k,edge ops i k=true∧hasB (bm.getD k 0) j=true
 | 0,h=>by
  simp only [uniM] at h
  split at h
  ·rename_i o ho; exact .inl (by rw [edge_spec ho]; exact h)
  ·simp [hasB] at h
 | k+1,h=>by
  simp only [uniM] at h
  cases he:edge ops i k with
  | false=>rw [he] at h; exact uniM_spec (k:=k) h
  | true=>
   rw [he] at h
   simp only [cond_true,hasB,Nat.testBit_or,Bool.or_eq_true] at h
   rcases h with h | h
   ·exact uniM_spec (k:=k) h
   ·exact .inr ⟨k,he,h⟩
theorem bm_clo (hac:acyOk ops=true) (hbm:bmOk ops bm=true) {D:Nat} (hc:Clo ops D) (hlt:∀i,hasB D i=true→i<ops.size) :
  ∀i,i<ops.size→(∀j,edge ops i j=true→hasB D j=true)→∀j,hasB (bm.getD i 0) j=true→hasB D j=true:=by
 intro i
 induction i using Nat.strongRecOn with
 | _ i ih=>
  intro hi hp j hj
  have h1:=List.all_eq_true.1 hbm i (List.mem_range.2 hi)
  rcases uniM_spec (subB_spec h1 hj) with h2 | ⟨k,h2,h3⟩
  ·exact hp j h2
  ·have hk:=hp k h2
   have ho:ops[i]?=some ops[i]:=Array.getElem?_eq_getElem hi
   have hki:k<i:=by
    have h4:=List.all_eq_true.1 hac i (List.mem_range.2 hi)
    rw [ho] at h4
    have hlt2:predM ops[i]<2 ^ i:=Nat.le_of_ble_eq_true h4
    rw [edge_spec ho] at h2
    exact Classical.byContradiction fun hge=>by
     have:predM ops[i]<2 ^ k:=Nat.lt_of_lt_of_le hlt2 (Nat.pow_le_pow_right (by omega) (by omega))
     have:=Nat.testBit_lt_two_pow this
     unfold hasB at h2; rw [this] at h2; cases h2
   exact ih k hki (hlt k hk) (fun q hq=>hc k q hk hq) j h3
def Rec (P:Program) (ops:Array Oper) (a0:Act) (out:Nat→Value) (pend:List Pd) (j:Nat) (o:Oper) (aj:Act) (dj:Nat):Prop:=
 St ops a0 out dj aj∧Clo ops dj∧rdyB dj j o=true∧
  ((∀w,YA P ops w o (out j) aj)∨∃pd∈pend,pd.i=j∧∀w,chkP P w pd→YA P ops w o (out j) aj)
structure CI (P:Program) (ops:Array Oper) (a0:Act) (out:Nat→Value) (e:Env) (d:Nat) (pend:List Pd) (le:Env) (ac:Act):Prop where
 st:St ops a0 out d ac
 clo:Clo ops d
 lt:∀k,hasB d k=true→k<ops.size
 sim:Sim (le++e) ac
 loc:Loc le e
 rec':∀j o,hasB d j=true→ops[j]?=some o→rdB o.op=true→∃aj dj,(∀k,hasB dj k=true→hasB d k=true)∧Rec P ops a0 out pend j o aj dj
def Owed (P:Program) (ops:Array Oper) (a0:Act) (out:Nat→Value) (pend:List Pd) (D d:Nat) (w:World):Prop:=
 ∀j o,hasB d j=true→hasB D j=false→ops[j]?=some o→rdB o.op=true∧∃aj dj,Rec P ops a0 out pend j o aj dj∧(∀k,hasB dj k=true→hasB d k=true)∧YA P ops w o (out j) aj
theorem St.out {a0 a:Act} {out out':Nat→Value} {D:Nat} (h:St ops a0 out D a) (ho:∀j,hasB D j=true→out' j=out j):St ops a0 out' D a:=
 ⟨h.size,h.defers,fun t j hw hj=>by rw [ho j hj]; exact h.yes t j hw hj,h.no⟩
theorem Rec.out {a0 aj:Act} {out out':Nat→Value} {pend pend':List Pd} {j dj:Nat} {o:Oper} (h:Rec P ops a0 out pend j o aj dj) (hd:∀k,hasB dj k=true→out' k=out k) (hj:out' j=out j)
  (hp:∀pd∈pend,pd∈pend'):Rec P ops a0 out' pend' j o aj dj:=by
 obtain ⟨h1,h2,h3,h4⟩:=h
 refine ⟨h1.out hd,h2,h3,?_⟩
 rw [hj]
 rcases h4 with h4 | ⟨pd,hm,hi,h4⟩
 ·exact .inl h4
 ·exact .inr ⟨pd,hp pd hm,hi,h4⟩
theorem firstR_spec {d:Nat} (l:List Oper):∀{k i:Nat} {o:Oper},firstR d l k=some (i,o)→∃m,i=k+m∧l[m]?=some o∧rdB o.op=true∧rdyB d i o=true:=by
 induction l with
 | nil=>intro k i o h; simp [firstR] at h
 | cons x r ih=>
  intro k i o h
  simp only [firstR] at h
  cases hb:rdB x.op&&rdyB d k x with
  | true=>
   rw [hb] at h; simp only [cond_true,Option.some.injEq,Prod.mk.injEq] at h
   obtain ⟨rfl,rfl⟩:=h
   simp only [Bool.and_eq_true] at hb
   exact ⟨0,rfl,rfl,hb.1,hb.2⟩
  | false=>
   rw [hb] at h
   obtain ⟨m,h1,h2,h3⟩:=ih h
   exact ⟨m+1,by omega,by simpa using h2,h3⟩
theorem firstR_none {d:Nat} (l:List Oper):∀{k:Nat},firstR d l k=none→∀m o,l[m]?=some o→rdB o.op=true→rdyB d (k+m) o=false:=by
 induction l with
 | nil=>intro k _ m o h _; simp at h
 | cons x r ih=>
  intro k h m o hm hr
  simp only [firstR] at h
  cases hb:rdB x.op&&rdyB d k x with
  | true=>rw [hb] at h; simp at h
  | false=>
   rw [hb] at h
   cases m with
   | zero=>
    simp at hm; subst hm
    rw [hr,Bool.true_and] at hb; exact hb
   | succ m=>have:=ih h m o (by simpa using hm) hr; rwa [show k+1+m=k+(m+1) by omega] at this
theorem readyE_mem {d:Nat} (l:List Oper):∀{k m:Nat} {o:Oper},l[m]?=some o→rdB o.op=false→rdyB d (k+m) o=true→(k+m,o)∈readyE d l k:=by
 induction l with
 | nil=>intro k m o hm; simp at hm
 | cons x r ih=>
  intro k m o hm hr hd
  simp only [readyE]
  cases m with
  | zero=>
   simp at hm; subst hm
   simp only [Nat.add_zero] at hd
   simp [hr,hd]
  | succ m=>
   have ih':=ih (k:=k+1) (m:=m) (by simpa using hm) hr (by rwa [show k+1+m=k+(m+1) by omega])
   rw [show k+1+m=k+(m+1) by omega] at ih'
   cases hb : !(rdB x.op)&&rdyB d k x with
   | true=>exact List.mem_cons_of_mem _ ih'
   | false=>exact ih'
theorem readyE_spec {d:Nat} (l:List Oper):∀{k:Nat} {x:Nat×Oper},x∈readyE d l k→∃m,x.1=k+m∧l[m]?=some x.2∧rdyB d x.1 x.2=true:=by
 induction l with
 | nil=>intro k x h; simp [readyE] at h
 | cons y r ih=>
  intro k x h
  simp only [readyE] at h
  cases hb : !(rdB y.op)&&rdyB d k y with
  | true=>
   rw [hb] at h; simp only [cond_true,List.mem_cons] at h
   rcases h with rfl | h
   ·simp only [Bool.and_eq_true] at hb; exact ⟨0,rfl,rfl,hb.2⟩
   ·obtain ⟨m,h1,h2,h3⟩:=ih h; exact ⟨m+1,by omega,by simpa using h2,h3⟩
  | false=>
   rw [hb] at h
   obtain ⟨m,h1,h2,h3⟩:=ih h; exact ⟨m+1,by omega,by simpa using h2,h3⟩
theorem allE_mem {α:Type} {f:α→Prop} : ∀{l:List α} {x:α},allE l f→x∈l→f x
 | [y],x,h,hx=>by simp at hx; subst hx; exact h
 | y :: z :: r,x,h,hx=>by
  rcases List.mem_cons.1 hx with rfl | hx
  ·exact h.1
  ·exact allE_mem (l:=z :: r) h.2 hx
theorem chks_spec {w:World} {m:Nat} {Q:Prop} (l:List Pd):chks P w m l Q→Q∧∀pd∈l,hasB m pd.i=false→chkP P w pd:=by
 induction l with
 | nil=>intro h; exact ⟨h,fun pd hp=>by cases hp⟩
 | cons d r ih=>
  intro h
  simp only [chks] at h
  cases hb:hasB m d.i with
  | true=>
   rw [hb] at h
   obtain ⟨h1,h2⟩:=ih h
   refine ⟨h1,fun pd hp hn=>?_⟩
   rcases List.mem_cons.1 hp with rfl | hp
   ·rw [hb] at hn; cases hn
   ·exact h2 pd hp hn
  | false=>
   rw [hb] at h
   obtain ⟨h0,h1⟩:=h
   obtain ⟨h1,h2⟩:=ih h1
   refine ⟨h1,fun pd hp hn=>?_⟩
   rcases List.mem_cons.1 hp with rfl | hp
   ·exact h0
   ·exact h2 pd hp hn
theorem advance (hu:DepOk ops) {a0:Act} (hn0:a0.tmps.size=n) {e:Env} {w:World} {K:Env→World→Prop} : ∀(f d:Nat) (pend:List Pd) (le:Env) (ac:Act) (out:Nat→Value),
  CI P ops a0 out e d pend le ac→evT P n ops bm f d pend le e w K→∃f' d' pend' le' ac' out',CI P ops a0 out' e d' pend' le' ac'∧firstR d' ops.toList 0=none∧
   evT P n ops bm (f'+1) d' pend' le' e w K∧(∀k,hasB d k=true→hasB d' k=true∧out' k=out k)∧(∀pd∈pend,pd∈pend')∧
   (∀j o,hasB d' j=true→hasB d j=false→ops[j]?=some o→rdB o.op=true∧∃aj dj,Rec P ops a0 out' pend' j o aj dj∧(∀k,hasB dj k=true→hasB d' k=true)∧YA P ops w o (out' j) aj):=by
 intro f
 induction f with
 | zero=>intro d pend le ac out _ h; exact h.elim
 | succ f ih=>
  intro d pend le ac out hci h
  cases hfr:firstR d ops.toList 0 with
  | none=>exact ⟨f,d,pend,le,ac,out,hci,hfr,h,fun k hk=>⟨hk,rfl⟩,fun pd hp=>hp,fun j o h1 h2=>by rw [h1] at h2; cases h2⟩
  | some io=>
   obtain ⟨i,o⟩:=io
   obtain ⟨m,him,hom,hrd,hrdy⟩:=firstR_spec _ hfr
   have ho:ops[i]?=some o:=by rw [him,Nat.zero_add]; simpa using hom
   have hid:hasB d i=false:=by simp only [rdyB,Bool.and_eq_true,Bool.not_eq_true'] at hrdy; exact hrdy.1
   have h':=h
   simp only [evT,hfr] at h'
   obtain ⟨hdn,v,le',pend',hout⟩:=rdStep_spec hci.loc hci.sim (by rw [hci.st.size,hn0]) h'
   let out1:Nat→Value:=fun k=>if k=i then v else out k
   have ho1:∀k,hasB d k=true→out1 k=out k:=fun k hk=>by
    have:k≠i:=fun e=>by subst e; rw [hid] at hk; cases hk
    simp [out1,this]
   have hoi:out1 i=v:=by simp [out1]
   have hpp:∀pd∈pend,pd∈pend':=fun pd hp=>by
    rcases hout.again with ⟨h1,_⟩ | ⟨q,h1,_⟩
    ·rw [h1]; exact hp
    ·rw [h1]; exact List.mem_cons_of_mem _ hp
   have hst1:St ops a0 out1 (addB d i) (ac.put o.dst v):=by
    have:=(hci.st.out ho1).put hu ho (fun t ht=>by rw [hn0]; exact hdn t ht)
    rwa [hoi] at this
   have hreci:Rec P ops a0 out1 pend' i o ac d:=by
    refine ⟨hci.st.out ho1,hci.clo,hrdy,?_⟩
    rw [hoi]
    rcases hout.again with ⟨_,h2⟩ | ⟨q,h1,h2,h3⟩
    ·exact .inl h2
    ·exact .inr ⟨q,by rw [h1]; exact List.mem_cons_self,h2,h3⟩
   have hadd:∀k,hasB d k=true→hasB (addB d i) k=true:=fun k hk=>by rw [hasB_add,hk]; rfl
   have hci1:CI P ops a0 out1 e (addB d i) pend' le' (ac.put o.dst v):=by
    refine ⟨hst1,hci.clo.add ho hrdy,fun k hk=>(by
     rw [hasB_add] at hk
     simp only [Bool.or_eq_true,decide_eq_true_eq] at hk
     rcases hk with hk | rfl
     ·exact hci.lt k hk
     ·exact (Array.getElem?_eq_some_iff.1 ho).1),hout.sim,hout.loc,fun j oj hj hoj hrj=>?_⟩
    rw [hasB_add] at hj
    simp only [Bool.or_eq_true,decide_eq_true_eq] at hj
    by_cases hij:i=j
    ·subst hij
     obtain rfl:o=oj:=Option.some.inj (ho.symm.trans hoj)
     exact ⟨ac,d,hadd,hreci⟩
    ·have hjd:=hj.resolve_right hij
     obtain ⟨aj,dj,g1,g2⟩:=hci.rec' j oj hjd hoj hrj
     exact ⟨aj,dj,fun k hk=>hadd k (g1 k hk),g2.out (fun k hk=>ho1 k (g1 k hk)) (ho1 j hjd) hpp⟩
   obtain ⟨f',d',pend2,le2,ac2,out2,c1,c2,c3,c4,c5,c6⟩:=ih _ _ _ _ _ hci1 hout.k
   refine ⟨f',d',pend2,le2,ac2,out2,c1,c2,c3,fun k hk=>?_,fun pd hp=>c5 pd (hpp pd hp),fun j oj hj hjn hoj=>?_⟩
   ·have:=c4 k (hadd k hk); exact ⟨this.1,this.2.trans (ho1 k hk)⟩
   ·by_cases hij:i=j
    ·subst hij
     obtain rfl:o=oj:=Option.some.inj (ho.symm.trans hoj)
     have hii:=c4 i (by rw [hasB_add]; simp)
     refine ⟨hrd,ac,d,hreci.out (fun k hk=>(c4 k (hadd k hk)).2) hii.2 c5,fun k hk=>(c4 k (hadd k hk)).1,?_⟩
     rw [hii.2,hoi]; exact hout.now
    ·exact c6 j oj hj (by rw [hasB_add,hjn]; simp [hij]) hoj
theorem noSel_spec (h:noSel ops=true) {i:Nat} {o:Oper} (ho:ops[i]?=some o):∀cs b,o.op≠.select cs b:=by
 intro cs b he
 have hm:o∈ops.toList:=by
  have:=Array.mem_of_getElem? ho
  exact Array.mem_toList_iff.2 this
 have:=List.all_eq_true.1 h o hm
 rw [he] at this; cases this
theorem same_run {a0 a a':Act} {out:Nat→Value} {d d' i:Nat} {o:Oper} (hu:DepOk ops) (hns:noSel ops=true) (hc:Clo ops d) (hc':Clo ops d') (h:St ops a0 out d a) (h':St ops a0 out d' a')
  (ho:ops[i]?=some o) (hr:rdyB d i o=true) (hr':rdyB d' i o=true):execOp a.eval o=execOp a'.eval o∧Region.wanted o (yielded ops a.tmps)=Region.wanted o (yielded ops a'.tmps):=by
 have hl:∀t∈o.looksAt ops,a.tmps[t]?=a'.tmps[t]?:=fun t ht=>St.look hu hc hc' h h' ho hr hr' ht
 constructor
 ·refine execOp_congr o (noSel_spec hns ho) fun x hx=>?_
  cases x with
  | tmp t=>
   have hm:t∈o.looksAt ops:=List.mem_append_left _ (List.mem_filterMap.2 ⟨.tmp t,by simpa using hx,rfl⟩)
   simp only [Act.eval,Array.getD_eq_getD_getElem?,hl t hm]
  | _=>rfl
 ·unfold Region.wanted
  cases hg:o.guard with
  | none=>rfl
  | some gw=>
   obtain ⟨g,want⟩:=gw
   have:yielded ops a.tmps g=yielded ops a'.tmps g:=by
    unfold yielded
    cases hb:(ops[g]?).bind (·.dst) with
    | none=>rfl
    | some t=>
     have hm:t∈o.looksAt ops:=List.mem_append_right _ (by simp [hg,hb])
     simp only [Option.bind_some,hl t hm]
   simp only [this]
theorem YA.same {w:World} {o:Oper} {v:Value} {a a':Act} (h:YA P ops w o v a) (he:execOp a'.eval o=execOp a.eval o) (hw:Region.wanted o (yielded ops a'.tmps)=Region.wanted o (yielded ops a.tmps)) :
  YA P ops w o v a':=by
 unfold YA at *; rw [he,hw]; exact h
theorem draw_main (hdr:drOk P ops bm=true) {a0:Act} (hn0:a0.tmps.size=n) {e:Env} {K:Env→World→Prop} {Q:Exit→Act→World→Prop}
  (hQ:∀a' w' e',Sim e' a'→(∀x∈e',x.path=[])→a'.tmps.size=n→a'.defers=a0.defers→(∀t,(∀j,¬Wr ops t j)→a'.tmps[t]?=a0.tmps[t]?)→K e' w'→Q .normal a' w') :
  ∀(fuel:Nat) (listed:Array Bool) (a:Act) (w:World) (D:Nat) (f d:Nat) (pend:List Pd) (le:Env) (ac:Act) (out:Nat→Value),
   Rel ops listed D→leftN ops D=fuel→St ops a0 out D a→Clo ops D→(∀k,hasB D k=true→hasB d k=true)→(∀k,hasB d k=true→k<ops.size)→
   CI P ops a0 out e d pend le ac→firstR d ops.toList 0=none→Owed P ops a0 out pend D d w→evT P n ops bm (f+1) d pend le e w K→
   wpAny P .any ops Q fuel listed a w:=by
 simp only [drOk,Bool.and_eq_true] at hdr
 obtain ⟨⟨⟨⟨hdep,hac⟩,hbm⟩,hns⟩,hfol⟩:=hdr
 have hu:=depOk_spec hdep
 have fin:∀(listed:Array Bool) (a:Act) (w:World) (D:Nat) (f d:Nat) (pend:List Pd) (le:Env) (ac:Act) (out:Nat→Value),
   Rel ops listed D→St ops a0 out D a→(∀k,hasB D k=true→hasB d k=true)→(∀k,hasB d k=true→k<ops.size)→
   CI P ops a0 out e d pend le ac→firstR d ops.toList 0=none→evT P n ops bm (f+1) d pend le e w K→(∀i,i<ops.size→hasB D i=true)→Q .normal a w:=by
  intro listed a w D f d pend le ac out hrel hst hDd hdlt hci hfr h hall
  simp only [evT,hfr] at h
  cases hre:readyE d ops.toList 0 with
  | cons x r=>
   exfalso
   have hm:x∈readyE d ops.toList 0:=by rw [hre]; exact List.mem_cons_self
   obtain ⟨m,h1,h2,h3⟩:=readyE_spec _ hm
   have hlt:x.1<ops.size:=by
    have:=(List.getElem?_eq_some_iff.1 h2).1; simp at this; omega
   simp only [rdyB,Bool.and_eq_true,Bool.not_eq_true'] at h3
   rw [hDd _ (hall _ hlt)] at h3; cases h3.1
  | nil=>
   rw [hre] at h
   simp only [] at h
   split at h
   ·split at h
    ·rename_i hw
     have hteq:a.tmps=ac.tmps:=by
      apply Array.ext_getElem?
      intro t
      by_cases hw:∃j,Wr ops t j
      ·obtain ⟨j,hw⟩:=hw
       rw [hst.yes t j hw (hall j (wr_lt hw)),hci.st.yes t j hw (hDd j (hall j (wr_lt hw)))]
      ·rw [hst.no t (fun j hj=>absurd ⟨j,hj⟩ hw),hci.st.no t (fun j hj=>absurd ⟨j,hj⟩ hw)]
     have haeq:a=ac:=by
      cases a; cases ac
      simp only [Act.mk.injEq]
      exact ⟨hteq,hst.defers.trans hci.st.defers.symm⟩
     rw [haeq]
     refine hQ ac w _ (fun t en hlk=>hci.sim t en (look_of_strong hci.loc.di hw hlk)) (fun x hx=>?_) (by rw [hci.st.size,hn0]) hci.st.defers (fun t ht=>hci.st.no t fun j hj=>absurd hj (ht j)) h
     rcases List.mem_append.1 hx with hx | hx
     ·have:=(List.mem_filter.1 hx).2; simpa using this
     ·exact hci.loc.st x hx
    ·exact h.elim
   ·exact h.elim
 intro fuel
 induction fuel with
 | zero=>
  intro listed a w D f d pend le ac out hrel hleft hst hclo hDd hdlt hci hfr how h
  have hall:=leftN_zero hleft
  have hready:Region.ready .any ops listed=[]:=by
   cases hr:Region.ready .any ops listed with
   | nil=>rfl
   | cons x r=>
    exfalso
    obtain ⟨o,ho,hrd⟩:=hrel.ready.1 (by rw [hr]; exact List.mem_cons_self)
    simp only [rdyB,Bool.and_eq_true,Bool.not_eq_true'] at hrd
    rw [hall x (Array.getElem?_eq_some_iff.1 ho).1] at hrd; cases hrd.1
  exact ⟨hready,fin listed a w D f d pend le ac out hrel hst hDd hdlt hci hfr h hall⟩
 | succ fuel ih=>
  intro listed a w D f d pend le ac out hrel hleft hst hclo hDd hdlt hci hfr how h
  refine ⟨fun hready=>fin listed a w D f d pend le ac out hrel hst hDd hdlt hci hfr h (acy_ready hac hrel hready),fun i hi=>?_⟩
  obtain ⟨o,ho,hrdD⟩:=hrel.ready.1 hi
  have hilt:i<ops.size:=(Array.getElem?_eq_some_iff.1 ho).1
  have hiD:hasB D i=false:=by simp only [rdyB,Bool.and_eq_true,Bool.not_eq_true'] at hrdD; exact hrdD.1
  have hleft':leftN ops (addB D i)=fuel:=by have:=leftN_add hilt hiD; omega
  unfold wpOp
  simp only [ho]
  cases hid:hasB d i with
  | true=>
   obtain ⟨hrd,ai,di,hrec,hdi,hya⟩:=how i o hid hiD ho
   obtain ⟨he,hw⟩:=same_run hu hns hclo hrec.2.1 hst hrec.1 ho hrdD hrec.2.2.1
   have hya':=hya.same he hw
   have hdst:∀t,o.dst=some t→t<a0.tmps.size:=fun t ht=>by
    have hwr:Wr ops t i:=by unfold Wr; rw [ho]; exact ht
    have:=hci.st.yes t i hwr hid
    rw [←hci.st.size]
    exact (Array.getElem?_eq_some_iff.1 this).1
   have next:wpAny P .any ops Q fuel (listed.setIfInBounds i true) (a.put o.dst (out i)) w:=by
    refine ih _ _ w (addB D i) f d pend le ac out (hrel.set hilt) hleft' (hst.put hu ho hdst) (hclo.add ho hrdD) (fun k hk=>?_) hdlt hci hfr (fun j oj hj hjn hoj=>?_) h
    ·rw [hasB_add] at hk
     simp only [Bool.or_eq_true,decide_eq_true_eq] at hk
     rcases hk with hk | rfl
     ·exact hDd k hk
     ·exact hid
    ·rw [hasB_add] at hjn
     simp only [Bool.or_eq_false_iff] at hjn
     exact how j oj hj hjn.1 hoj
   by_cases hwt:Region.wanted o (yielded ops a.tmps)=true
   ·rw [if_pos hwt]
    refine .inl ?_
    unfold Oper.wp
    rw [hya'.1 hwt]
    exact next
   ·rw [if_neg hwt]
    rw [hya'.2 (by simpa using hwt)] at next
    exact next
  | false=>
   have hrdd:rdyB d i o=true:=by
    simp only [rdyB,Bool.and_eq_true,Bool.not_eq_true'] at hrdD ⊢
    exact ⟨hid,subB_mk fun j hj=>hDd j (subB_spec hrdD.2 hj)⟩
   have hol:ops.toList[i]?=some o:=by simpa using ho
   have hnr:rdB o.op=false:=by
    cases hb:rdB o.op with
    | false=>rfl
    | true=>
     have:=firstR_none _ hfr i o hol hb
     rw [Nat.zero_add,hrdd] at this; cases this
   have hmem:=readyE_mem (k:=0) _ hol hnr (by rw [Nat.zero_add]; exact hrdd)
   rw [Nat.zero_add] at hmem
   have h':=h
   simp only [evT,hfr] at h'
   have hef:efStep P n ops o le e w fun le' w'=>chks P w' (bm.getD i 0) pend (evT P n ops bm f (addB d i) pend le' e w' K):=by
    cases hre:readyE d ops.toList 0 with
    | nil=>rw [hre] at hmem; cases hmem
    | cons x r=>
     rw [hre] at h'
     simp only [] at h'
     have:=allE_mem h' (by rw [←hre]; exact hmem)
     exact this
   obtain ⟨hdn,hY,hN⟩:=efStep_spec hci.loc hci.sim (by rw [hci.st.size,hn0]) hef
   obtain ⟨he,hw⟩:=same_run hu hns hclo hci.clo hst hci.st ho hrdD hrdd
   have hdst:∀t,o.dst=some t→t<a0.tmps.size:=fun t ht=>by rw [hn0]; exact hdn t ht
   have hiall:∀j,edge ops i j=true→hasB D j=true:=fun j hj=>by
    rw [edge_spec ho] at hj
    simp only [rdyB,Bool.and_eq_true] at hrdD
    exact subB_spec hrdD.2 hj
   have next:∀(v:Value) (w':World),(∃le',Sim (le'++e) (ac.put o.dst v)∧Loc le' e∧chks P w' (bm.getD i 0) pend (evT P n ops bm f (addB d i) pend le' e w' K))→
     wpAny P .any ops Q fuel (listed.setIfInBounds i true) (a.put o.dst v) w':=by
    rintro v w' ⟨le',hs',hl',hck⟩
    obtain ⟨hev,hchk⟩:=chks_spec _ hck
    let out1:Nat→Value:=fun k=>if k=i then v else out k
    have ho1:∀k,hasB d k=true→out1 k=out k:=fun k hk=>by
     have:k≠i:=fun e=>by subst e; rw [hid] at hk; cases hk
     simp [out1,this]
    have ho1D:∀k,hasB D k=true→out1 k=out k:=fun k hk=>ho1 k (hDd k hk)
    have hoi:out1 i=v:=by simp [out1]
    have hadd:∀k,hasB d k=true→hasB (addB d i) k=true:=fun k hk=>by rw [hasB_add,hk]; rfl
    have hst1:St ops a0 out1 (addB D i) (a.put o.dst v):=by
     have:=(hst.out ho1D).put hu ho hdst
     rwa [hoi] at this
    have hci1:CI P ops a0 out1 e (addB d i) pend le' (ac.put o.dst v):=by
     refine ⟨(by have:=(hci.st.out ho1).put hu ho hdst; rwa [hoi] at this),hci.clo.add ho hrdd,fun k hk=>(by
      rw [hasB_add] at hk
      simp only [Bool.or_eq_true,decide_eq_true_eq] at hk
      rcases hk with hk | rfl
      ·exact hci.lt k hk
      ·exact hilt),hs',hl',fun j oj hj hoj hrj=>?_⟩
     rw [hasB_add] at hj
     simp only [Bool.or_eq_true,decide_eq_true_eq] at hj
     have hij:i≠j:=fun e=>by
      subst e
      obtain rfl:o=oj:=Option.some.inj (ho.symm.trans hoj)
      rw [hnr] at hrj; cases hrj
     have hjd:=hj.resolve_right hij
     obtain ⟨aj,dj,g1,g2⟩:=hci.rec' j oj hjd hoj hrj
     exact ⟨aj,dj,fun k hk=>hadd k (g1 k hk),g2.out (fun k hk=>ho1 k (g1 k hk)) (ho1 j hjd) fun pd hp=>hp⟩
    have how1:∀j oj,hasB d j=true→hasB D j=false→ops[j]?=some oj→rdB oj.op=true∧∃aj dj,Rec P ops a0 out1 pend j oj aj dj∧(∀k,hasB dj k=true→hasB d k=true)∧YA P ops w' oj (out1 j) aj:=by
     intro j oj hj hjn hoj
     obtain ⟨hrd,aj,dj,hrec,hdj,hya⟩:=how j oj hj hjn hoj
     refine ⟨hrd,aj,dj,hrec.out (fun k hk=>ho1 k (hdj k hk)) (ho1 j hj) (fun pd hp=>hp),hdj,?_⟩
     rw [ho1 j hj]
     rcases hrec.2.2.2 with h4 | ⟨pd,hm,hpi,h4⟩
     ·exact h4 w'
     ·refine h4 w' (hchk pd hm ?_)
      cases hb:hasB (bm.getD i 0) pd.i with
      | false=>rfl
      | true=>
       rw [hpi] at hb
       have:=bm_clo hac hbm hclo hrel.lt i hilt hiall j hb
       rw [hjn] at this; cases this
    obtain ⟨f',d',pend',le2,ac2,out2,c1,c2,c3,c4,c5,c6⟩:=advance hu hn0 _ _ _ _ _ _ hci1 hev
    refine ih _ _ w' (addB D i) f' d' pend' le2 ac2 out2 (hrel.set hilt) hleft' (hst1.out fun k hk=>?_) (hclo.add ho hrdD) (fun k hk=>?_) c1.lt c1 c2 (fun j oj hj hjn hoj=>?_) c3
    ·rw [hasB_add] at hk
     simp only [Bool.or_eq_true,decide_eq_true_eq] at hk
     rcases hk with hk | rfl
     ·exact (c4 k (hadd k (hDd k hk))).2
     ·exact (c4 i (by rw [hasB_add]; simp)).2
    ·rw [hasB_add] at hk
     simp only [Bool.or_eq_true,decide_eq_true_eq] at hk
     rcases hk with hk | rfl
     ·exact (c4 k (hadd k (hDd k hk))).1
     ·exact (c4 i (by rw [hasB_add]; simp)).1
    ·rw [hasB_add] at hjn
     simp only [Bool.or_eq_false_iff,decide_eq_false_iff_not] at hjn
     cases hjd:hasB d j with
     | true=>
      obtain ⟨hrd,aj,dj,hrec,hdj,hya⟩:=how1 j oj hjd hjn.1 hoj
      have hj2:=c4 j (hadd j hjd)
      refine ⟨hrd,aj,dj,hrec.out (fun k hk=>(c4 k (hadd k (hdj k hk))).2) hj2.2 c5,fun k hk=>(c4 k (hadd k (hdj k hk))).1,?_⟩
      rw [hj2.2]; exact hya
     | false=>
      exact c6 j oj hj (by rw [hasB_add,hjd]; simp [hjn.2]) hoj
   by_cases hwt:Region.wanted o (yielded ops a.tmps)=true
   ·rw [if_pos hwt]
    refine .inl ?_
    refine upn_wp (K:=fun v w'=>∃le',Sim (le'++e) (ac.put o.dst v)∧Loc le' e∧chks P w' (bm.getD i 0) pend (evT P n ops bm f (addB d i) pend le' e w' K)) ?_ fun v w' hK=>next v w' hK
    rw [he]
    exact hY (by rw [←hw]; exact hwt)
   ·rw [if_neg hwt]
    exact next undef w (hN (by rw [←hw]; simpa using hwt))
theorem evDraw_spec (hdr:drOk P ops bm=true) {id f:Nat} {a:Act} {w:World} {e:Env} {K:Env→World→Prop} {Q:Exit→Act→World→Prop} (hs:Sim e a) (hst:∀x∈e,x.path=[]) (hn:a.tmps.size=n)
  (h:evT P n ops bm f 0 [] [] e w.drew K)
  (hQ:∀a' w' e',Sim e' a'→(∀x∈e',x.path=[])→a'.tmps.size=n→a'.defers=a.defers→(∀t,(∀j,¬Wr ops t j)→a'.tmps[t]?=a.tmps[t]?)→K e' w'→Q .normal a' w') :
  (Code.region id ops true).wp P Q a w:=by
 have hdr':=hdr
 simp only [drOk,Bool.and_eq_true] at hdr'
 have hu:=depOk_spec hdr'.1.1.1.1
 have h0:∀k,hasB 0 k=false:=fun k=>by simp [hasB]
 have habs:∀k,hasB 0 k=true→False:=fun k hk=>by rw [h0] at hk; cases hk
 have hst0:St ops a (fun _=>undef) 0 a:=⟨rfl,rfl,fun t j _ hj=>(habs j hj).elim,fun _ _=>rfl⟩
 have hclo0:Clo ops 0:=fun i j hi _=>(habs i hi).elim
 have hci:CI P ops a (fun _=>undef) e 0 [] [] a:=
  ⟨hst0,hclo0,fun k hk=>(habs k hk).elim,(by simpa using hs),⟨fun x hx=>(by cases hx),hst,fun x hx=>(by cases hx)⟩,fun j o hj=>(habs j hj).elim⟩
 obtain ⟨f',d',pend',le',ac',out',c1,c2,c3,c4,c5,c6⟩:=advance hu hn _ _ _ _ _ _ hci h
 refine wp_region_any hdr'.2 (draw_main hdr hn hQ ops.size _ a w.drew 0 f' d' pend' le' ac' out' ⟨(by simp),fun i hi=>?_,fun i hi=>(habs i hi).elim⟩ ?_ (hst0.out fun k hk=>(habs k hk).elim) hclo0 (fun k hk=>(habs k hk).elim) c1.lt c1 c2 (fun j o hj hjn ho=>c6 j o hj (h0 j) ho) c3)
 ·simp [hi,h0]
 ·unfold leftN
  rw [List.filter_eq_self.2 (fun i _=>by rw [h0]; rfl)]
  simp
end
end Go.Proofs.YtmhjehodfggleaaGreat.Vc

/- The verification-condition generator, seventh part: code: sequences, tests, blocks, loops, where ways meet; functions. -/

set_option linter.unusedVariables false
set_option linter.unusedSimpArgs false
namespace Go.Proofs.YtmhjehodfggleaaGreat.Vc
open Go
inductive An where
 | leaf
 | seq (a b:An)
 | cond (a b:An)
 | blk (a:An)
 | loop (ks:List (Nat×Kd)) (a:An)
 | join (ks:List (Nat×Kd)) (a:An)
 | draw (bm:List Nat)
@[reducible] def TupK:List (Nat×Kd)→Type
 | []=>Unit
 | (_,k) :: r=>KTy k×TupK r
def decA:(ks:List (Nat×Kd))→Env→(TupK ks→Prop)→Prop
 | [],_,f=>f ()
 | (t,k) :: r,e,f=>match look e t with
  | some en=>(match en.path with
   | []=>unk k en.val fun x=>decA r e fun y=>f (x,y)
   | _ :: _=>False)
  | none=>False
def encA:(ks:List (Nat×Kd))→TupK ks→Env
 | [],_=>[]
 | (t,k) :: r,x=>⟨t,[],kval k x.1⟩ :: encA r x.2
def writesO (l:List Oper) (t:Nat):Bool:=l.any fun o=>match o.dst with | some d=>Nat.beq d t | none=>false
def writesB:Code→Nat→Bool
 | .seq a b,t=>writesB a t || writesB b t
 | .cond _ a b,t=>writesB a t || writesB b t
 | .block _ a,t=>writesB a t
 | .loop a,t=>writesB a t
 | .scope a,t=>writesB a t
 | .region _ ops _,t=>writesO ops.toList t
 | .skip,_=>false
 | .ret,_=>false
 | .exit _,_=>false
 | .label _,_=>false
 | _,_=>true
def kill (c:Code) (e:Env):Env:=e.filter fun x=>!(writesB c x.slot)
def evC (P:Program) (n:Nat):An→Code→Env→World→(Exit→Env→World→Prop)→Prop
 | .seq x y,c,e,w,K=>match c with
  | .seq a b=>evC P n x a e w fun ex e' w'=>match ex with
   | .normal=>evC P n y b e' w' K
   | ex=>K ex e' w'
  | _=>False
 | .cond x y,c,e,w,K=>match c with
  | .cond v a b=>match opd e [] v with
   | some (.bool t)=>pif t (evC P n x a e w K) (evC P n y b e w K)
   | _=>False
  | _=>False
 | .blk x,c,e,w,K=>match c with
  | .block id a=>evC P n x a e w fun ex e' w'=>match ex with
   | .exit id'=>bif Nat.beq id' id then K .normal e' w' else K (.exit id') e' w'
   | ex=>K ex e' w'
  | _=>False
 | .loop ks x,c,e,w,K=>match c with
  | .loop a=>decA ks e fun s=>lp (fun s w k=>evC P n x a (encA ks s++kill a e) w fun ex e' w'=>match ex with
   | .normal=>decA ks e' fun s'=>k s' w'
   | ex=>K ex e' w') s w
  | _=>False
 | .join ks x,c,e,w,K=>jn (fun k=>evC P n x c e w fun ex e' w'=>match ex with
   | .normal=>decA ks e' fun s=>k s w'
   | ex=>K ex e' w') fun s w'=>K .normal (encA ks s++kill c e) w'
 | .draw bm,c,e,w,K=>match c with
  | .region _ ops d=>match d,drOk P ops bm with
   | true,true=>evT P n ops bm (ops.toList.length+1) 0 [] [] e w.drew fun e' w'=>K .normal e' w'
   | _,_=>False
  | _=>False
 | .leaf,c,e,w,K=>match c with
  | .skip=>K .normal e w
  | .ret=>K .ret e w
  | .exit id=>K (.exit id) e w
  | .label _=>K .normal e w
  | .region _ ops d=>match d with
   | false=>evReg P n ops ops.toList [] e w fun e' w'=>K .normal e' w'
   | true=>False
  | _=>False
def Str (e:Env):Prop:=∀x∈e,x.path=[]
structure Fr (n:Nat) (c:Code) (a a':Act):Prop where
 size:a'.tmps.size=n
 defers:a'.defers=a.defers
 keep:∀t,writesB c t=false→a'.tmps[t]?=a.tmps[t]?
theorem decA_spec:∀{ks:List (Nat×Kd)} {e:Env} {f:TupK ks→Prop} {a:Act},Sim e a→decA ks e f→∃s,f s∧Sim (encA ks s) a∧Str (encA ks s)
 | [],e,f,a,_,h=>⟨(),h,fun t en h=>by simp [encA,look] at h,fun x hx=>by simp [encA] at hx⟩
 | (t,k) :: r,e,f,a,hs,h=>by
  simp only [decA] at h
  split at h
  ·rename_i en hl
   split at h
   ·rename_i hp
    obtain ⟨x,hx,h⟩:=unk_spec h
    obtain ⟨y,hy,h1,h2⟩:=decA_spec hs h
    refine ⟨(x,y),hy,fun t' en' hl'=>?_,fun z hz=>?_⟩
    ·simp only [encA,look] at hl'
     cases hb:Nat.beq t t' with
     | true=>
      rw [hb] at hl'; simp only [cond_true,Option.some.injEq] at hl'; subst hl'
      have hv:=(hs t en hl).yes (by rw [hp]; exact On.nil a)
      rw [look_slot hl,hx] at hv
      exact ⟨fun _=>hv,fun hno=>absurd (On.nil a) hno⟩
     | false=>rw [hb] at hl'; exact h1 t' en' hl'
    ·simp only [encA,List.mem_cons] at hz
     rcases hz with rfl | hz
     ·rfl
     ·exact h2 z hz
   ·exact h.elim
  ·exact h.elim
theorem look_kill {c:Code} : ∀{e:Env} {t:Nat} {en:Ent},look (kill c e) t=some en→look e t=some en∧writesB c t=false
 | [],t,en,h=>by simp [kill,look] at h
 | x :: r,t,en,h=>by
  simp only [kill,List.filter_cons] at h
  simp only [look]
  cases hw:writesB c x.slot with
  | true=>
   rw [hw] at h
   simp only [Bool.not_true,Bool.false_eq_true,if_false] at h
   obtain ⟨h1,h2⟩:=look_kill (c:=c) (e:=r) h
   cases hb:Nat.beq x.slot t with
   | true=>have:=Nat.eq_of_beq_eq_true hb; subst this; rw [hw] at h2; cases h2
   | false=>exact ⟨h1,h2⟩
  | false=>
   rw [hw] at h
   simp only [Bool.not_false,if_true,look] at h
   cases hb:Nat.beq x.slot t with
   | true=>
    rw [hb] at h
    have:=Nat.eq_of_beq_eq_true hb; subst this
    exact ⟨h,hw⟩
   | false=>rw [hb] at h; exact look_kill (c:=c) (e:=r) h
theorem sim_app {e1 e2:Env} {a:Act} (h1:Sim e1 a) (h2:∀t en,look e2 t=some en→EntOk a en):Sim (e1++e2) a:=by
 induction e1 with
 | nil=>exact h2
 | cons x r ih=>
  intro t en h
  simp only [List.cons_append,look] at h
  cases hb:Nat.beq x.slot t with
  | true=>
   rw [hb] at h
   exact h1 t en (by simp only [look,hb]; exact h)
  | false=>
   rw [hb] at h
   refine ih2 h1 h2 hb h
where
 ih2 {x:Ent} {r e2:Env} {a:Act} {t:Nat} {en:Ent} (h1:Sim (x :: r) a) (h2:∀t en,look e2 t=some en→EntOk a en) (hb:Nat.beq x.slot t=false) (h:look (r++e2) t=some en):EntOk a en:=by
  by_cases hr:∃en',look r t=some en'
  ·obtain ⟨en',hr⟩:=hr
   have:=look_append_left (e:=e2) hr
   rw [h] at this; simp at this; subst this
   exact h1 t en (by simp only [look,hb]; exact hr)
  ·have hn:look r t=none:=by cases hl:look r t with | none=>rfl | some z=>exact absurd ⟨z,hl⟩ hr
   have he:look e2 t=some en:=by
    clear h1 hr hb
    induction r with
    | nil=>exact h
    | cons y q ih=>
     simp only [List.cons_append,look] at h hn
     cases hb':Nat.beq y.slot t with
     | true=>rw [hb'] at hn; simp at hn
     | false=>rw [hb'] at h hn; exact ih h hn
   exact h2 t en he
theorem sim_kill {c:Code} {n:Nat} {e:Env} {a a':Act} (hs:Sim e a) (hst:Str e) (hf:∀t,writesB c t=false→a'.tmps[t]?=a.tmps[t]?) :
  ∀t en,look (kill c e) t=some en→EntOk a' en:=by
 intro t en h
 obtain ⟨h1,h2⟩:=look_kill h
 have hok:=hs t en h1
 have hp:=hst en (look_mem h1)
 have hv:=hok.yes (by rw [hp]; exact On.nil a)
 rw [look_slot h1] at hv
 refine ⟨fun _=>by rw [look_slot h1,hf t h2,hv],fun hno=>absurd (by rw [hp]; exact On.nil a') hno⟩
theorem str_kill {c:Code} {e:Env} (h:Str e):Str (kill c e):=fun x hx=>h x (List.mem_filter.1 hx).1
theorem str_app {e1 e2:Env} (h1:Str e1) (h2:Str e2):Str (e1++e2):=fun x hx=>(List.mem_append.1 hx).elim (h1 x) (h2 x)
theorem dsts_of_writes {l:List Oper} {t:Nat} (h:writesO l t=false):¬dsts l t:=by
 rintro ⟨o,ho,hd⟩
 have:=List.any_eq_false.1 h o ho
 rw [hd] at this
 exact this (Nat.beq_refl t)
theorem evC_spec {P:Program} {n:Nat} : ∀(an:An) (c:Code) (e:Env) (w:World) (K:Exit→Env→World→Prop) (a:Act),
  Sim e a→Str e→a.tmps.size=n→evC P n an c e w K→c.wp P (fun ex a' w'=>∃e',Sim e' a'∧Str e'∧Fr n c a a'∧K ex e' w') a w:=by
 intro an
 induction an with
 | seq x y ihx ihy=>
  intro c e w K a hs hst hn h
  simp only [evC] at h
  split at h
  ·rename_i ca cb
   refine wp_seq (wp_mono (ihx ca e w _ a hs hst hn h) fun ex a' w' hq=>?_)
   obtain ⟨e',h1,h2,h3,h4⟩:=hq
   cases ex with
   | normal=>
    refine wp_mono (ihy cb e' w' K a' h1 h2 h3.size h4) fun ex2 a2 w2 hq2=>?_
    obtain ⟨e2,g1,g2,g3,g4⟩:=hq2
    exact ⟨e2,g1,g2,⟨g3.size,g3.defers.trans h3.defers,fun t ht=>by
     simp only [writesB,Bool.or_eq_false_iff] at ht
     rw [g3.keep t ht.2,h3.keep t ht.1]⟩,g4⟩
   | _=>exact ⟨e',h1,h2,⟨h3.size,h3.defers,fun t ht=>by
     simp only [writesB,Bool.or_eq_false_iff] at ht
     exact h3.keep t ht.1⟩,h4⟩
  ·exact h.elim
 | cond x y ihx ihy=>
  intro c e w K a hs hst hn h
  simp only [evC] at h
  split at h
  ·rename_i v ca cb
   split at h
   ·rename_i t hv
    have hve:=opd_spec hs (On.nil a) hv
    refine wp_cond_split hve (fun ht=>?_) (fun ht=>?_)
    ·refine wp_mono (ihx ca e w K a hs hst hn (h.1 ht)) fun ex a' w' hq=>?_
     obtain ⟨e',h1,h2,h3,h4⟩:=hq
     exact ⟨e',h1,h2,⟨h3.size,h3.defers,fun t ht=>by
      simp only [writesB,Bool.or_eq_false_iff] at ht
      exact h3.keep t ht.1⟩,h4⟩
    ·refine wp_mono (ihy cb e w K a hs hst hn (h.2 ht)) fun ex a' w' hq=>?_
     obtain ⟨e',h1,h2,h3,h4⟩:=hq
     exact ⟨e',h1,h2,⟨h3.size,h3.defers,fun t ht=>by
      simp only [writesB,Bool.or_eq_false_iff] at ht
      exact h3.keep t ht.2⟩,h4⟩
   ·exact h.elim
  ·exact h.elim
 | blk x ihx=>
  intro c e w K a hs hst hn h
  simp only [evC] at h
  split at h
  ·rename_i id ca
   refine wp_block (wp_mono (ihx ca e w _ a hs hst hn h) fun ex a' w' hq=>?_)
   obtain ⟨e',h1,h2,h3,h4⟩:=hq
   have h3':Fr n (.block id ca) a a':=⟨h3.size,h3.defers,h3.keep⟩
   cases ex with
   | exit id'=>
    simp only [Exit.inBlock]
    by_cases hid:id'=id
    ·subst hid
     simp only [Nat.beq_refl,cond_true] at h4
     simp only [if_true]
     exact ⟨e',h1,h2,h3',h4⟩
    ·have hb:Nat.beq id' id=false:=by
      cases hb:Nat.beq id' id with
      | false=>rfl
      | true=>exact absurd (Nat.eq_of_beq_eq_true hb) hid
     simp only [hb,cond_false] at h4
     rw [if_neg hid]
     exact ⟨e',h1,h2,h3',h4⟩
   | _=>exact ⟨e',h1,h2,h3',h4⟩
  ·exact h.elim
 | loop ks x ihx=>
  intro c e w K a hs hst hn h
  simp only [evC] at h
  split at h
  ·rename_i ca
   obtain ⟨s,h,hs0,hst0⟩:=decA_spec hs h
   obtain ⟨I,μ,hI,hround⟩:=h
   refine wp_loop_ghost (fun k a' w'=>∃s,Sim (encA ks s++kill ca e) a'∧Str (encA ks s++kill ca e)∧Fr n (.loop ca) a a'∧I s w'∧μ s w'=k) (μ s w)
    ⟨s,sim_app hs0 (sim_kill (n:=n) hs hst fun _ _=>rfl),str_app hst0 (str_kill hst),⟨hn,rfl,fun _ _=>rfl⟩,hI,rfl⟩ ?_
   intro k a1 w1 hr
   obtain ⟨s1,g1,g2,g3,g4,rfl⟩:=hr
   refine wp_mono (ihx ca _ w1 _ a1 g1 g2 g3.size (hround s1 w1 g4)) fun ex a' w' hq=>?_
   obtain ⟨e',h1,h2,h3,h4⟩:=hq
   have h3':Fr n (.loop ca) a a':=⟨h3.size,h3.defers.trans g3.defers,fun t ht=>by
    rw [h3.keep t ht,g3.keep t ht]⟩
   cases ex with
   | normal=>
    obtain ⟨s',⟨hI',hμ⟩,hs',hst'⟩:=decA_spec h1 h4
    exact ⟨μ s' w',hμ,s',sim_app hs' (sim_kill (n:=n) hs hst fun t ht=>h3'.keep t ht),str_app hst' (str_kill hst),h3',hI',rfl⟩
   | _=>exact ⟨e',h1,h2,h3',h4⟩
  ·exact h.elim
 | join ks x ihx=>
  intro c e w K a hs hst hn h
  simp only [evC] at h
  obtain ⟨R,hA,hB⟩:=h
  refine wp_mono (ihx c e w _ a hs hst hn hA) fun ex a' w' hq=>?_
  obtain ⟨e',h1,h2,h3,h4⟩:=hq
  cases ex with
  | normal=>
   obtain ⟨s,hR,hs',hst'⟩:=decA_spec h1 h4
   exact ⟨_,sim_app hs' (sim_kill (n:=n) hs hst h3.keep),str_app hst' (str_kill hst),h3,hB s w' hR⟩
  | _=>exact ⟨e',h1,h2,h3,h4⟩
 | draw bm=>
  intro c e w K a hs hst hn h
  simp only [evC] at h
  split at h
  ·rename_i id ops d
   split at h
   ·rename_i hdr
    refine evDraw_spec hdr hs hst hn h fun a' w' e' q1 q2 q3 q4 q5 q6=>⟨e',q1,q2,⟨q3,q4,fun t ht=>q5 t fun j hj=>?_⟩,q6⟩
    unfold Wr at hj
    cases ho:ops[j]? with
    | none=>simp [ho] at hj
    | some o=>
     rw [ho] at hj
     exact dsts_of_writes ht ⟨o,Array.mem_toList_iff.2 (Array.mem_of_getElem? ho),by simpa using hj⟩
   ·exact h.elim
  ·exact h.elim
 | leaf=>
  intro c e w K a hs hst hn h
  simp only [evC] at h
  split at h
  ·exact wp_skip ⟨e,hs,hst,⟨hn,rfl,fun _ _=>rfl⟩,h⟩
  ·exact wp_ret ⟨e,hs,hst,⟨hn,rfl,fun _ _=>rfl⟩,h⟩
  ·exact wp_exit ⟨e,hs,hst,⟨hn,rfl,fun _ _=>rfl⟩,h⟩
  ·exact wp_label ⟨e,hs,hst,⟨hn,rfl,fun _ _=>rfl⟩,h⟩
  ·rename_i id ops d
   split at h
   ·refine wp_region_list (evReg_spec ops.toList [] e w a ⟨fun x hx=>(by cases hx),hst,fun x hx=>(by cases hx)⟩ (by simpa using hs) hn h ?_)
    intro a' w' e' q1 q2 q3 q4 q5 q6
    exact ⟨e',q1,q2,⟨q3,q4,fun t ht=>q5 t (dsts_of_writes ht)⟩,q6⟩
   ·exact h.elim
  ·exact h.elim
def evRes (P:Program):List ResultVar→Env→World→(List Value→Prop)→Prop
 | [],_,_,K=>K []
 | r :: rs,e,w,K=>match r with
  | .tmp t=>match opd e [] (.tmp t) with
   | some v=>evRes P rs e w fun vs=>K (v :: vs)
   | none=>False
  | .cell t ty=>adr (opd e [] (.tmp t)) fun a=>loadT P ty a w fun v=>evRes P rs e w fun vs=>K (v :: vs)
def tupV (vs:List Value):Value:=match vs with | [v]=>v | vs=>.tuple vs.toArray
def evF (P:Program) (fn:Func) (an:An) (args:List Value) (w:World) (R:Value→World→Prop):Prop:=
 match fn.body with
 | some c=>evC P fn.ntmps an c (args.zipIdx.map fun (v,i)=>⟨i,[],v⟩) w fun ex e w'=>match ex with
  | .normal=>evRes P fn.results.toList e w' fun vs=>R (tupV vs) w'
  | .ret=>evRes P fn.results.toList e w' fun vs=>R (tupV vs) w'
  | _=>False
 | none=>False
theorem evRes_spec {P:Program} {w:World} : ∀{rs:List ResultVar} {e:Env} {K:List Value→Prop} {a:Act},Sim e a→evRes P rs e w K→
  ∃vs:List Value,(rs.mapM (fun | .tmp t=>pure (a.tmps.getD t undef) | .cell b t=>do loadVar t (←asAddr (a.tmps.getD b undef)):ResultVar→Sem Value)).run P w=.ok vs w∧K vs
 | [],e,K,a,hs,h=>⟨[],rfl,h⟩
 | r :: rs,e,K,a,hs,h=>by
  simp only [evRes] at h
  split at h
  ·rename_i t
   split at h
   ·rename_i v hv
    have hv':=opd_spec hs (On.nil a) hv
    simp only [Act.eval] at hv'
    obtain ⟨vs,h1,h2⟩:=evRes_spec hs h
    refine ⟨v :: vs,?_,h2⟩
    rw [List.mapM_cons]
    simp only [Sem.run_bind,Sem.run_pure,Result.andThen_ok,hv']
    erw [h1]
    rfl
   ·exact h.elim
  ·rename_i t ty
   obtain ⟨ad,hx,h⟩:=adr_spec h
   have hv':=opd_spec hs (On.nil a) hx
   simp only [Act.eval] at hv'
   obtain ⟨v,hl,h⟩:=loadT_spec h
   obtain ⟨vs,h1,h2⟩:=evRes_spec hs h
   refine ⟨v :: vs,?_,h2⟩
   rw [List.mapM_cons]
   simp only [Sem.run_bind,hv',asAddr,Sem.run_pure,Result.andThen_ok,hl]
   erw [h1]
   rfl
theorem results_of {P:Program} {fn:Func} {e:Env} {w:World} {K:List Value→Prop} {a:Act} (hs:Sim e a) (h:evRes P fn.results.toList e w K) :
  ∃vs,(results fn a.tmps).run P w=.ok (tupV vs) w∧K vs:=by
 obtain ⟨vs,h1,h2⟩:=evRes_spec hs h
 refine ⟨vs,?_,h2⟩
 unfold results
 rw [Array.mapM_eq_mapM_toList]
 simp only [Sem.run_bind,Sem.run_map]
 erw [h1]
 simp only [Result.andThen_ok,Sem.run_pure]
 congr 1
 match vs with
 | []=>rfl
 | [v]=>rfl
 | v :: u :: r=>
  rw [dif_neg (by simp)]
  rfl
theorem calls_of_ev {P:Program} {f:FuncId} {fn:Func} {an:An} {args:List Value} {w:World} {R:Value→World→Prop}
  (hf:P.funcs[f]?=some fn) (hn:args.length≤fn.ntmps) (h:evF P fn an args w R) :
  Calls P f args.toArray w fun e w'=>∃v,e=.returned v∧R v w':=by
 unfold evF at h
 split at h
 ·rename_i c hb
  refine calls_of_wp hf hb ?_
  refine wp_mono (evC_spec an c _ w _ _ ?_ ?_ ?_ h) ?_
  ·intro t en hl
   have key:∀(l:List Value) (k:Nat),look ((l.zipIdx k).map fun (v,i)=>(⟨i,[],v⟩:Ent)) t=some en→en.path=[]∧∃j,t=k+j∧l[j]?=some en.val:=by
    intro l
    induction l with
    | nil=>intro k h; simp [look] at h
    | cons v l ih=>
     intro k h
     simp only [List.zipIdx_cons,List.map_cons,look] at h
     cases hbb:Nat.beq k t with
     | true=>
      rw [hbb] at h; simp only [cond_true,Option.some.injEq] at h; subst h
      exact ⟨rfl,0,(Nat.eq_of_beq_eq_true hbb).symm,rfl⟩
     | false=>
      rw [hbb] at h
      obtain ⟨h1,j,h2,h3⟩:=ih (k+1) h
      exact ⟨h1,j+1,by omega,by simpa using h3⟩
   obtain ⟨h1,j,h2,h3⟩:=key args 0 hl
   have hsl:=look_slot hl
   refine ⟨fun _=>?_,fun hno=>absurd (by rw [h1]; exact On.nil _) hno⟩
   have hj:j<args.length:=(List.getElem?_eq_some_iff.1 h3).1
   rw [hsl,h2,Nat.zero_add]
   simp only [Array.getElem?_append,List.size_toArray,hj,if_true]
   simpa using h3
  ·intro x hx
   obtain ⟨y,hy,rfl⟩:=List.mem_map.1 hx
   rfl
  ·simp; omega
  ·intro ex a' w' hq
   obtain ⟨e',h1,h2,h3,h4⟩:=hq
   cases ex with
   | normal=>
    obtain ⟨vs,g1,g2⟩:=results_of h1 h4
    exact ⟨h3.defers,_,g1,_,rfl,g2⟩
   | ret=>
    obtain ⟨vs,g1,g2⟩:=results_of h1 h4
    exact ⟨h3.defers,_,g1,_,rfl,g2⟩
   | _=>exact h4.elim
 ·exact h.elim
end Go.Proofs.YtmhjehodfggleaaGreat.Vc

/- What the proofs over the verification conditions use: memory that is kept, cells that are read, written and made. -/

set_option linter.unusedVariables false
set_option linter.unusedSimpArgs false
namespace Go.Proofs.YtmhjehodfggleaaGreat.Vc
open Go
structure Keep (S:Nat→Prop) (w w':World):Prop where
 os:w'.os=w.os
 tape:w'.tape=w.tape
 output:w'.output=w.output
 size:w.heap.size≤w'.heap.size
 block:∀i,i<w.heap.size→¬S i→w'.heap[i]?=w.heap[i]?
theorem Keep.refl (S:Nat→Prop) (w:World):Keep S w w:=⟨rfl,rfl,rfl,Nat.le_refl _,fun _ _ _=>rfl⟩
theorem Keep.trans {S S':Nat→Prop} {w w1 w2:World} (h:Keep S w w1) (h':Keep S' w1 w2) (hs:∀i,i<w.heap.size→S' i→S i):Keep S w w2:=
 ⟨h'.os.trans h.os,h'.tape.trans h.tape,h'.output.trans h.output,Nat.le_trans h.size h'.size,fun i hi hn=>
  (h'.block i (Nat.lt_of_lt_of_le hi h.size) (fun h1=>hn (hs i hi h1))).trans (h.block i hi hn)⟩
theorem Keep.mono {S S':Nat→Prop} {w w':World} (h:Keep S w w') (hs:∀i,i<w.heap.size→S i→S' i):Keep S' w w':=
 ⟨h.os,h.tape,h.output,h.size,fun i hi hn=>h.block i hi fun h1=>hn (hs i hi h1)⟩
theorem Keep.alloc {S:Nat→Prop} {w w':World} (h:Keep S w w') (o:Obj):Keep S w (w'.alloc o):=
 ⟨h.os,h.tape,h.output,by rw [World.size_alloc]; have:=h.size; omega,fun i hi hn=>by
  rw [RowKit.Below.heap_alloc _ _ _ (Nat.lt_of_lt_of_le hi h.size)]; exact h.block i hi hn⟩
theorem Keep.drew {S:Nat→Prop} {w w':World} (h:Keep S w w'):Keep S w w'.drew:=⟨h.os,h.tape,h.output,h.size,h.block⟩
theorem Keep.setCell {S:Nat→Prop} {w w':World} (h:Keep S w w') (a:Addr) (v:Value) (hs:a.block<w.heap.size→S a.block):Keep S w (w'.setCell a v):=
 ⟨h.os,h.tape,h.output,by rw [World.size_setCell]; exact h.size,fun i hi hn=>by
  rw [heap_setCell_other _ _ _ _ (fun e=>hn (by subst e; exact hs hi))]; exact h.block i hi hn⟩
theorem Keep.below {S:Nat→Prop} {B:Nat} {w w':World} (h:Keep S w w') (hB:B≤w.heap.size) (hs:∀i,S i→B≤i):RowKit.Below B w w':=
 ⟨h.os,h.tape,h.output,h.size,fun i hi=>h.block i (Nat.lt_of_lt_of_le hi hB) fun h1=>by have:=hs i h1; omega⟩
def None:Nat→Prop:=fun _=>False
theorem Keep.below0 {w w':World} (h:Keep None w w'):RowKit.Below w.heap.size w w':=h.below (Nat.le_refl _) fun i hi=>hi.elim
def Blk (w:World) (b:Nat) (cs:List Value) (t:TypeId):Prop:=w.heap[b]?=some (.cells cs.toArray t (0,0))
theorem Blk.cell {w:World} {b:Nat} {cs:List Value} {t:TypeId} (h:Blk w b cs t) (i:Nat):w.cell? ⟨b,i,none⟩=cs[i]?:=by
 unfold Blk at h; simp [World.cell?,h]
theorem Blk.frozen {w:World} {b:Nat} {cs:List Value} {t:TypeId} (h:Blk w b cs t) (i:Nat):w.frozen? ⟨b,i,none⟩=false:=by
 unfold Blk at h; simp [World.frozen?,h]
theorem Blk.lt {w:World} {b:Nat} {cs:List Value} {t:TypeId} (h:Blk w b cs t):b<w.heap.size:=(Array.getElem?_eq_some_iff.1 h).1
theorem Blk.keep {S:Nat→Prop} {w w':World} {b:Nat} {cs:List Value} {t:TypeId} (h:Blk w b cs t) (hk:Keep S w w') (hs:¬S b):Blk w' b cs t:=by
 unfold Blk; rw [hk.block b h.lt hs]; exact h
theorem Blk.new (w:World) (cs:List Value) (t:TypeId):Blk (w.alloc (.cells cs.toArray t)) w.heap.size cs t:=heap_alloc_new w _
theorem Blk.alloc {w:World} {b:Nat} {cs:List Value} {t:TypeId} (h:Blk w b cs t) (o:Obj):Blk (w.alloc o) b cs t:=by
 unfold Blk; rw [RowKit.Below.heap_alloc _ _ _ h.lt]; exact h
theorem Blk.drew {w:World} {b:Nat} {cs:List Value} {t:TypeId} (h:Blk w b cs t):Blk w.drew b cs t:=h
theorem Blk.set {w:World} {b:Nat} {cs:List Value} {t:TypeId} (h:Blk w b cs t) (i:Nat) (v:Value):Blk (w.setCell ⟨b,i,none⟩ v) b (cs.set i v) t:=by
 unfold Blk
 rw [heap_setCell_same w b i _ t v h]
 simp
theorem Blk.setOther {w:World} {b:Nat} {cs:List Value} {t:TypeId} (h:Blk w b cs t) (a:Addr) (v:Value) (hne:b≠a.block):Blk (w.setCell a v) b cs t:=by
 unfold Blk; rw [heap_setCell_other _ _ _ _ hne]; exact h
theorem add_mk (b o n:Nat):(⟨b,o,none⟩:Addr).add n=⟨b,o+n,none⟩:=by
 unfold Addr.add; split
 ·subst_vars; rfl
 ·rfl
theorem ldI_of {k:IntKind} {w:World} {a:Addr} {K:Int→Prop} {x:Int} (h:w.cell? a=some (.int k x)) (hk:K x):ldI k w a K:=⟨x,h,hk⟩
theorem ldB_of {w:World} {a:Addr} {K:Bool→Prop} {x:Bool} (h:w.cell? a=some (.bool x)) (hk:K x):ldB w a K:=⟨x,h,hk⟩
theorem ldF_of {k:FloatKind} {w:World} {a:Addr} {K:Nat→Prop} {x:Nat} (h:w.cell? a=some (.float k x)) (hk:K x):ldF k w a K:=⟨x,h,hk⟩
theorem ldS_of {w:World} {a:Addr} {K:ByteArray→Prop} {x:ByteArray} (h:w.cell? a=some (.string x)) (hk:K x):ldS w a K:=⟨x,h,hk⟩
theorem ldP_of {w:World} {a:Addr} {K:Option Addr→Prop} {x:Option Addr} (h:w.cell? a=some (.pointer x)) (hk:K x):ldP w a K:=⟨x,h,hk⟩
theorem ldC_of {w:World} {a:Addr} {K:Option Addr→Nat→Nat→Prop} {x:Option Addr} {n c:Nat} (h:w.cell? a=some (.slice x n c)) (hk:K x n c):ldC w a K:=⟨x,n,c,h,hk⟩
theorem ldM_of {w:World} {a:Addr} {K:Option Nat→Prop} {x:Option Nat} (h:w.cell? a=some (.map x)) (hk:K x):ldM w a K:=⟨x,h,hk⟩
theorem ldV_of {w:World} {a:Addr} {K:Value→Prop} {x:Value} (h:w.cell? a=some x) (hk:K x):ldV w a K:=⟨x,h,hk⟩
theorem pif_of {b:Bool} {X Y:Prop} (h1:b=true→X) (h2:b=false→Y):pif b X Y:=⟨h1,h2⟩
theorem pif_true {X Y:Prop} (h:X):pif true X Y:=⟨fun _=>h,fun h=>(by cases h)⟩
theorem pif_false {X Y:Prop} (h:Y):pif false X Y:=⟨fun h=>(by cases h),fun _=>h⟩
theorem pif_t {b:Bool} {X Y:Prop} (hb:b=true) (h:X):pif b X Y:=by subst hb; exact pif_true h
theorem pif_f {b:Bool} {X Y:Prop} (hb:b=false) (h:Y):pif b X Y:=by subst hb; exact pif_false h
theorem gd_of {α:Type} {b:Bool} {A:(α→World→Prop)→Prop} {d:α} {w:World} {K:α→World→Prop} (h1:b=true→A K) (h2:b=false→K d w):gd b A d w K:=⟨h1,h2⟩
theorem gd_t {α:Type} {b:Bool} {A:(α→World→Prop)→Prop} {d:α} {w:World} {K:α→World→Prop} (hb:b=true) (h:A K):gd b A d w K:=⟨fun _=>h,fun h=>(by rw [hb] at h; cases h)⟩
theorem gd_f {α:Type} {b:Bool} {A:(α→World→Prop)→Prop} {d:α} {w:World} {K:α→World→Prop} (hb:b=false) (h:K d w):gd b A d w K:=⟨fun h=>(by rw [hb] at h; cases h),fun _=>h⟩
theorem gd_pure {α:Type} {b:Bool} {A:(α→World→Prop)→Prop} {d:α} {w:World} {K:α→World→Prop} (x:α) (h:b=true→∀K,K x w→A K) (hk:K (cond b x d) w):gd b A d w K:=by
 cases b with
 | true=>exact ⟨fun _=>h rfl K hk,fun h=>(by cases h)⟩
 | false=>exact ⟨fun h=>(by cases h),fun _=>hk⟩
theorem lp_of {σ:Type} {body:σ→World→(σ→World→Prop)→Prop} {s:σ} {w:World} (I:σ→World→Prop) (μ:σ→World→Nat) (h0:I s w)
  (h:∀s w,I s w→body s w fun s' w'=>I s' w'∧μ s' w'<μ s w):lp body s w:=⟨I,μ,h0,h⟩
theorem jn_of {σ:Type} {A:(σ→World→Prop)→Prop} {B:σ→World→Prop} (h:A B):jn A B:=⟨B,h,fun _ _ h=>h⟩
theorem cl_of {P:Program} {k:FuncId} {args:List Value} {w:World} {R R':Ending→World→Prop} (hok:fnOk P k=true) (h:Calls P k args.toArray w R') (hr:∀e w',R' e w'→R e w'):cl P k args w R:=
 ⟨hok,h.mono hr⟩
def One (b:Nat):Nat→Prop:=fun i=>i=b
theorem Keep.setOne {w:World} {b i:Nat} {sp:Option Nat} (v:Value):Keep (One b) w (w.setCell ⟨b,i,none⟩ v):=
 (Keep.refl _ w).setCell _ _ fun _=>rfl
theorem Keep.none {S:Nat→Prop} {w w':World} (h:Keep None w w'):Keep S w w':=h.mono fun _ _ h=>h.elim
theorem Keep.then0 {S:Nat→Prop} {w w1 w2:World} (h:Keep S w w1) (h':Keep None w1 w2):Keep S w w2:=h.trans h' fun _ _ h=>h.elim
theorem Keep.then1 {S:Nat→Prop} {w w1 w2:World} {b:Nat} (h:Keep S w w1) (h':Keep (One b) w1 w2) (hb:w.heap.size≤b):Keep S w w2:=
 h.trans h' fun i hi e=>by have:i=b:=e; omega
theorem Keep.thenS {S:Nat→Prop} {w w1 w2:World} {b:Nat} (h:Keep S w w1) (h':Keep (One b) w1 w2) (hb:S b):Keep S w w2:=
 h.trans h' fun i hi e=>by have:i=b:=e; rw [this]; exact hb
theorem Blk.keep0 {w w':World} {b:Nat} {cs:List Value} {t:TypeId} (h:Blk w b cs t) (hk:Keep None w w'):Blk w' b cs t:=h.keep hk fun h=>h
theorem Blk.keep1 {w w':World} {b b':Nat} {cs:List Value} {t:TypeId} (h:Blk w b cs t) (hk:Keep (One b') w w') (hne:b≠b'):Blk w' b cs t:=h.keep hk hne
theorem alc_of {w:World} {cs:List Value} {t:TypeId} {K:Nat→World→Prop} (h:∀w',Blk w' w.heap.size cs t→Keep None w w'→K w.heap.size w'):alc w cs t K:=
 h _ (Blk.new w cs t) ((Keep.refl _ w).alloc _)
theorem st_of {w:World} {b i:Nat} {cs:List Value} {t:TypeId} {v:Value} {K:World→Prop} (hB:Blk w b cs t) (hi:i<cs.length) (hv:v.oneCell'=true)
  (hk:∀w',Blk w' b (cs.set i v) t→Keep (One b) w w'→w'.heap.size=w.heap.size→K w'):st w ⟨b,i,none⟩ v K:=by
 refine ⟨hv,?_,hB.frozen i,hk _ (hB.set i v) (Keep.setOne (sp:=Option.none) v) (by rw [World.size_setCell])⟩
 rw [hB.cell i,List.getElem?_eq_getElem hi]; rfl
theorem alc_at {w:World} {cs:List Value} {t:TypeId} {K:Nat→World→Prop} (h:∀b w',b=w.heap.size→Blk w' b cs t→Keep None w w'→K b w'):alc w cs t K:=
 h _ _ rfl (Blk.new w cs t) ((Keep.refl _ w).alloc _)
theorem made_one (z:Value) (n:Nat):(madeCells #[z] n).toList=List.replicate n z:=by
 apply List.ext_getElem
 ·simp [madeCells]
 ·intro i h1 h2
  simp [madeCells,Nat.mod_one]
theorem mk_of {P:Program} {w:World} {t e:TypeId} {B:Nat} {z:Value} {n:Int} {K:Option Addr→Nat→Nat→World→Prop}
  (ht:P.underlying t=some (.slice e)) (hi0:(P.info? e).map (fun i=>(i.zero,i.size,i.bytes))=some (some z,1,B)) (hzc:z.cells=#[z])
  (h0:0≤n) (hb:(B:Int)*n≤281474976710656) (hn:n≤9223372036854775807)
  (h:∀b w',b=w.heap.size→Blk w' b (List.replicate n.toNat z) e→Keep None w w'→K (some ⟨b,0,none⟩) n.toNat n.toNat w') :
  ∃(p:Option Addr) (l c:Nat),∃w':World,(Instr.makeSlice t (.int .i64 n) (.int .i64 n)).run P w=.ok (.slice p l c) w'∧K p l c w':=by
 obtain ⟨i,hi,hi'⟩:=Option.map_eq_some_iff.1 hi0
 simp only [Prod.mk.injEq] at hi'
 obtain ⟨hz,hsz,rfl⟩:=hi'
 have hr:=run_make (P:=P) w t e i z ht hi hz .i64 .i64 n n h0 (Int.le_refl _) hb hn
 refine ⟨_,_,_,_,hr,h _ _ rfl ?_ ((Keep.refl _ w).alloc _)⟩
 have e1:madeCells z.cells (n.toNat*i.size)=(List.replicate n.toNat z).toArray:=by
  apply Array.toList_inj.1
  rw [hzc,made_one,hsz,Nat.mul_one]
 rw [e1]
 exact Blk.new w _ e
theorem nn_of {a:Addr} {K:Addr→Prop} (h:K a):nn (some a) K:=h
theorem ixA_of {b o n:Nat} {i:Int} {sz:Nat} {K:Addr→Prop} (h0:0≤i) (h1:i<n) (h:K ⟨b,o+i.toNat*sz,none⟩):ixA (some ⟨b,o,none⟩) n i sz K:=
 ⟨h0,h1,by show K _; rw [add_mk]; exact h⟩
theorem ixA_of1 {b n:Nat} {i:Int} {K:Addr→Prop} (h0:0≤i) (h1:i<n) (h:K ⟨b,i.toNat,none⟩):ixA (some ⟨b,0,none⟩) n i 1 K:=
 ixA_of h0 h1 (by rw [Nat.zero_add,Nat.mul_one]; exact h)
theorem cell_lt {w:World} {a:Addr} {v:Value} (h:w.cell? a=some v):a.block<w.heap.size:=by
 apply Classical.byContradiction
 intro hc
 have:w.heap[a.block]?=none:=Array.getElem?_eq_none (by omega)
 simp [World.cell?,this] at h
theorem Keep.cell {S:Nat→Prop} {w w':World} {a:Addr} {v:Value} (hk:Keep S w w') (h:w.cell? a=some v) (hs:¬S a.block):w'.cell? a=some v:=
 (World.cell?_of_block (w:=w) (hk.block a.block (cell_lt h) hs)).trans h
end Go.Proofs.YtmhjehodfggleaaGreat.Vc

/- A row whose law answers true and turns nothing that was there: from the walk to the row's form. -/

set_option linter.unusedVariables false
set_option linter.unusedSimpArgs false
namespace Go.Proofs.YtmhjehodfggleaaGreat.Vc
open Go Go.ChangeShapes Go.WideShapes Go.ChangeAt Go.RowKit
section
variable {H:Type} {enc:TypeId×Value→H} {P:Program}
theorem trodAll_below (hl:laidOutB P=true) {W W':World} (hb:Below W.heap.size W W'):∀(ts:List TypeId) (vs:List Value) (ds:List (DataW H)) (ps:List MemPlace),
  ts.all (fun t=>P.readableRec t&&decide (t<P.types.size))=true→DataW.TrodAll enc P W 0 (fun _=>true) true ts vs ds ps→
  DataW.TrodAll enc P W' 0 (fun b=>decide (b<W.heap.size)) true ts vs ds ps:=by
 intro ts
 induction ts with
 | nil=>intro vs ds ps _ h; cases vs<;>cases ds<;>exact h
 | cons t ts ih=>
  intro vs ds ps hr h
  cases vs with
  | nil=>cases ds<;>exact h
  | cons v vs=>
   cases ds with
   | nil=>exact h
   | cons d ds=>
    obtain ⟨p,q,h1,h2,e⟩:=h
    simp only [List.all_cons,Bool.and_eq_true,decide_eq_true_eq] at hr
    refine ⟨p,q,Below.trod hl hr.1.1 hr.1.2 h1 hb ?_,ih _ _ _ hr.2 h2,e⟩
    obtain ⟨n,hn⟩:=h1
    exact fun x hx=>DataW.trod_lt n _ _ _ hn x hx
theorem trodAll_length {W:World} {base:Nat} {spare:Nat→Bool} {held:Bool} : ∀(ts:List TypeId) (vs:List Value) (ds:List (DataW H)) (ps:List MemPlace),
  DataW.TrodAll enc P W base spare held ts vs ds ps→ds.length=ts.length:=by
 intro ts
 induction ts with
 | nil=>intro vs ds ps h; cases vs<;>cases ds<;>first | rfl | exact h.elim
 | cons t ts ih=>
  intro vs ds ps h
  cases vs with
  | nil=>cases ds<;>exact h.elim
  | cons v vs=>
   cases ds with
   | nil=>exact h.elim
   | cons d ds=>
    obtain ⟨p,q,h1,h2,e⟩:=h
    simp [ih _ _ _ h2]
theorem row_true {C:Checked} {os:Os} {k:FuncId} {fn:Func} {s:ChangeSpec} {conds:List PathCond} {apart fresh:Bool} {tb:TypeId}
  (own:ownKnob C.prog.godebug=none) (started:os.Started) (noInit:C.prog.inits.idxOf? k=none) (hfn:C.prog.funcs[k]?=some fn)
  (witness:∃(w:World) (tape:Tape) (i:Input),w.os=os∧(w.forCall tape i).Shaped C.prog∧i.vars=[]∧Input.okWide C.prog (w.forCall tape i) .any w.heap.size k i∧
   s.pre6 enc C.prog fn conds apart (w.forCall tape i).memory i.args∧({} : Assume).holds C.prog (lone (Frame.enter C.prog k i.args .normal) [] (w.forCall tape i)))
  (hl:laidOutB C.prog=true) (hread:fn.params.toList.all (fun t=>C.prog.readableRec t&&decide (t<C.prog.types.size))=true)
  (hvars:s.vars=[]) (hres:fn.resultTypes=#[tb]) (hb:C.prog.underlying tb=some .bool)
  (hspec:∀ds:List (DataW H),ds.length=fn.params.toList.length→(s.fn H ds).results=[.lit (.bool true)]∧(s.fn H ds).args=ds∧(s.fn H ds).vars=[])
  (walk:∀(W:World) (base:Nat) (args:Array Value) (ds:List (DataW H)) (ps:List MemPlace),
   (∀(j:Nat) t v,fn.params[j]?=some t→args[j]?=some v→Value.okWide C.prog W .any base t v)→
   DataW.TrodAll enc C.prog W 0 (fun _=>true) true fn.params.toList args.toList ds ps→
   Calls C.prog k args W fun e W'=>e=.returned (.bool true)∧Below W.heap.size W W') :
  ReturnsInHanded {} C os k .any (s.pre6 enc C.prog fn conds apart) (s.post enc C.prog fn apart fresh false false):=by
 refine returnsInHanded_of_change_sized own started noInit hfn witness ?_
 intro W base args ds gs before hval hW hcnd hsz _
 have hW':=hW
 obtain ⟨p,q,hA,hV,rfl,hfz,hnd⟩:=hW
 rw [hvars] at hV
 obtain ⟨rfl,rfl⟩:=trodVars_none hV
 refine (walk W base args ds p hval hA).mono fun e W' ⟨he,bel⟩=>?_
 subst he
 have hn:=hspec ds (trodAll_length _ _ _ _ hA)
 refine ⟨_,rfl,ds,[],p++[],[],p,[],hW',?_,?_,?_,bel.frame _,fun h=>by cases h⟩
 ·rw [List.append_nil,hn.1,hres]
  exact trodAll_mk1 (shut_bool hb _)
 ·rw [List.append_nil,hn.2.1]
  exact trodAll_below hl bel _ _ _ _ hread hA
 ·rw [List.append_nil,hn.2.2,hvars]
  rfl
end
end Go.Proofs.YtmhjehodfggleaaGreat.Vc

/- What an argument that reads as data is made of, type by type. -/

set_option linter.unusedVariables false
set_option linter.unusedSimpArgs false
namespace Go.Proofs.YtmhjehodfggleaaGreat.Vc
open Go Go.ChangeShapes Go.WideShapes Go.ChangeAt Go.RowKit
def Fits (P:Program) (w:World):Nat→TypeId→List Value→Prop
 | 0,_,_=>True
 | m+1,t,cs=>
  match P.underlying t with
  | some .bool=>∃b,cs=[.bool b]
  | some (.int k)=>∃n,cs=[.int k n]∧(Lit.int k n).wf=true
  | some (.float k)=>∃n,cs=[.float k n]∧(Lit.float k n).wf=true
  | some .string=>∃s:ByteArray,cs=[.string s]∧s.size≤maxLen
  | some (.slice e)=>cs=[.slice none 0 0]∨∃(a:Addr) (len cap:Nat),cs=[.slice (some a) len cap]∧len≤cap∧cap≤maxLen∧
    ∀i,i<cap→∃cs',w.cells? 0 (a.add (i*P.cellsOf e)) (P.cellsOf e)=some cs'∧Fits P w m e cs'
  | some (.struct fs)=>cs.length=P.cellsOf t∧∀(i:Nat) (f:Field),fs[i]?=some f→Fits P w m f.type ((cs.drop f.offset).take (P.cellsOf f.type))
  | some (.array n e)=>cs.length=P.cellsOf t∧∀i,i<n→Fits P w m e ((cs.drop (i*P.cellsOf e)).take (P.cellsOf e))
  | _=>True
section
variable {H:Type} {enc:TypeId×Value→H} {P:Program} {w:World}
theorem trod_float {k:FloatKind} {t:TypeId} {cs:List Value} {x:DataW H×List MemPlace} {base:Nat} {spare:Nat→Bool} {held:Bool} {fuel:Nat} (ht:P.underlying t=some (.float k)) (h:DataW.trod enc P w base spare held fuel t cs=some x) :
  ∃n,cs=[.float k n]∧(Lit.float k n).wf=true:=by
 cases fuel with
 | zero=>simp [DataW.trod] at h
 | succ n=>
  unfold DataW.trod at h
  rw [ht] at h
  split at h<;>simp_all
theorem fits_trod:∀(fuel:Nat) (t:TypeId) (cs:List Value) (x:DataW H×List MemPlace),DataW.trod enc P w 0 (fun _=>true) true fuel t cs=some x→∀m,Fits P w m t cs:=by
 intro fuel
 induction fuel with
 | zero=>intro t cs x h; simp [DataW.trod] at h
 | succ fuel ih=>
  intro t cs x h m
  cases m with
  | zero=>trivial
  | succ m=>
   unfold Fits
   split
   ·rename_i ht
    obtain ⟨b,e,_⟩:=DataW.trod_bool ht h
    exact ⟨b,e⟩
   ·rename_i ht
    obtain ⟨b,e,_,hw⟩:=DataW.trod_int ht h
    exact ⟨b,e,hw⟩
   ·rename_i ht
    exact trod_float ht h
   ·rename_i ht
    obtain ⟨b,e,_,hw⟩:=DataW.trod_string ht h
    exact ⟨b,e,hw⟩
   ·rename_i ht
    rcases Go.Deep.open_slice ht h with ⟨h0,_⟩ | ⟨a,len,cap,mm,n,D,Pl,e,_,hl,hm,hmm,_,hx⟩
    ·exact Or.inl h0
    ·refine Or.inr ⟨a,len,cap,e,hl,hm,fun i hi=>?_⟩
     obtain ⟨cs',h1,h2⟩:=hx i (by rw [hmm]; simpa using hi)
     refine ⟨cs',h1,?_⟩
     have hs:=DataW.trod_slice ht h
     rcases hs with ⟨h0,_⟩ | ⟨a',len',cap',elems,rest,n',hf,e',_,_,_,_,_,hel,hsp,_⟩
     ·rw [h0] at e; simp at e
     ·rw [e'] at e
      simp only [List.cons.injEq,Value.slice.injEq,Option.some.injEq,and_true] at e
      obtain ⟨rfl,rfl,rfl⟩:=e
      obtain rfl:fuel=n':=by omega
      by_cases hil:i<len'
      ·have h3:=hel i hil
       rw [h1] at h3
       have h4:elems[i]?=DataW.trod enc P w 0 (fun _=>true) true fuel _ cs':=h3.symm
       rcases hq:DataW.trod enc P w 0 (fun _=>true) true fuel _ cs' with _ | y
       ·rw [hq] at h4
        have:=List.getElem?_eq_none_iff.1 h4
        rename_i hlen _ _ _ _ _ _ _ _ _
        omega
       ·exact ih _ _ _ hq m
      ·have h3:=(hsp rfl).2 (i - len') (by omega)
       rw [show len'+(i - len')=i by omega,h1] at h3
       rcases hq:DataW.trod enc P w 0 (fun _=>true) true fuel _ cs' with _ | y
       ·have h4:rest[i - len']?=DataW.trod enc P w 0 (fun _=>true) true fuel _ cs':=h3.symm
        rw [hq] at h4
        have:=List.getElem?_eq_none_iff.1 h4
        have:=(hsp rfl).1
        omega
       ·exact ih _ _ _ hq m
   ·rename_i ht
    obtain ⟨xs,n,hf,_,hl,hxl,hx⟩:=DataW.trod_struct ht h
    obtain rfl:fuel=n:=by omega
    refine ⟨hl,fun i f hi=>?_⟩
    have h3:=hx i f hi
    have hlt:i<xs.length:=by rw [hxl]; exact (Array.getElem?_eq_some_iff.1 hi).1
    rw [List.getElem?_eq_getElem hlt] at h3
    exact ih _ _ _ h3 m
   ·rename_i ht
    obtain ⟨xs,n,hf,_,hl,hxl,hx⟩:=DataW.trod_array ht h
    obtain rfl:fuel=n:=by omega
    refine ⟨hl,fun i hi=>?_⟩
    have h3:=hx i hi
    rw [List.getElem?_eq_getElem (by omega)] at h3
    exact ih _ _ _ h3 m
   ·trivial
theorem fits_of {t:TypeId} {v:Value} {d:DataW H} {ps:List MemPlace} (h:DataW.Trod enc P w 0 (fun _=>true) true t v d ps) (m:Nat):Fits P w m t v.cells.toList:=by
 obtain ⟨fuel,hf⟩:=h
 exact fits_trod fuel _ _ _ hf m
theorem agg_of_struct {W:World} {base:Nat} {t:TypeId} {v:Value} {fs:Array Field} (ht:P.underlying t=some (.struct fs)) (hv:Value.okWide P W .any base t v):∃cs,v=.agg cs:=by
 unfold Value.okWide at hv
 rw [ht] at hv
 obtain ⟨cs,h,_⟩:=hv
 exact ⟨cs,h⟩
end
end Go.Proofs.YtmhjehodfggleaaGreat.Vc

/- Rows whose input is of bounded bulk: how long the slices are that are met in reading it; the row's form. -/

set_option linter.unusedVariables false
set_option linter.unusedSimpArgs false
namespace Go.Proofs.YtmhjehodfggleaaGreat.Vc
open Go Go.ChangeShapes Go.WideShapes Go.ChangeAt Go.RowKit
open Go.Proofs.YtmhjehodfggleaaGreat.Rows hiding none
theorem bulk_mem {H:Type} : ∀{l:List (DataW H)} {d:DataW H},d∈l→uptoBulk d≤uptoBulkAll l:=by
 intro l
 induction l with
 | nil=>intro d h; cases h
 | cons x l ih=>
  intro d h
  unfold uptoBulkAll
  rcases List.mem_cons.1 h with rfl | h
  ·omega
  ·have:=ih h; omega
theorem bulk_pos {H:Type} (d:DataW H):1≤uptoBulk d:=by
 cases d with
 | lit l=>cases l<;>simp [uptoBulk]
 | _=>simp [uptoBulk]
theorem bulk_len {H:Type} : ∀(l:List (DataW H)),l.length≤uptoBulkAll l:=by
 intro l
 induction l with
 | nil=>simp [uptoBulkAll]
 | cons x l ih=>unfold uptoBulkAll; have:=bulk_pos x; simp only [List.length_cons]; omega
def Bk (P:Program) (w:World) (B:Nat):Nat→TypeId→List Value→Prop
 | 0,_,_=>True
 | m+1,t,cs=>match P.underlying t with
  | some .string=>∀s,cs=[.string s]→s.size≤B
  | some (.slice e)=>∀p n c,cs=[.slice p n c]→n≤B∧∀a,p=some a→∀i,i<n→∀cs',w.cells? 0 (a.add (i*P.cellsOf e)) (P.cellsOf e)=some cs'→Bk P w B m e cs'
  | some (.struct fs)=>∀(i:Nat) (f:Field),fs[i]?=some f→Bk P w B m f.type ((cs.drop f.offset).take (P.cellsOf f.type))
  | some (.array n e)=>∀i,i<n→Bk P w B m e ((cs.drop (i*P.cellsOf e)).take (P.cellsOf e))
  | _=>True
section
variable {H:Type} {enc:TypeId×Value→H} {P:Program} {w:World}
theorem bk_trod {B:Nat} : ∀(fuel:Nat) (t:TypeId) (cs:List Value) (x:DataW H×List MemPlace),DataW.trod enc P w 0 (fun _=>true) true fuel t cs=some x→uptoBulk x.1≤B→∀m,Bk P w B m t cs:=by
 intro fuel
 induction fuel with
 | zero=>intro t cs x h; simp [DataW.trod] at h
 | succ fuel ih=>
  intro t cs x h hB m
  cases m with
  | zero=>trivial
  | succ m=>
   unfold Bk
   split
   ·rename_i ht
    obtain ⟨b,e,hx,hw⟩:=DataW.trod_string ht h
    intro s hs
    rw [hs] at e
    simp only [List.cons.injEq,Value.string.injEq,and_true] at e
    subst e
    rw [hx] at hB
    simp only [uptoBulk] at hB
    have:s.data.size=s.size:=rfl
    first | omega | (simp at hB; omega)
   ·rename_i ht
    intro p n c hs
    rcases DataW.trod_slice ht h with ⟨h0,_⟩ | ⟨a,len,cap,elems,rest,n',hf,e,hx,_,_,_,hl,hel,_⟩
    ·rw [h0] at hs
     simp only [List.cons.injEq,Value.slice.injEq,and_true] at hs
     obtain ⟨rfl,rfl,rfl⟩:=hs
     exact ⟨Nat.zero_le _,fun a h=>by cases h⟩
    ·rw [e] at hs
     simp only [List.cons.injEq,Value.slice.injEq,and_true] at hs
     obtain ⟨rfl,rfl,rfl⟩:=hs
     obtain rfl:fuel=n':=by omega
     rw [hx] at hB
     simp only [uptoBulk] at hB
     have h1:=bulk_len (elems.map (·.1))
     rw [List.length_map,hl] at h1
     refine ⟨by omega,fun a' ha i hi cs' hc=>?_⟩
     injection ha with ha
     subst ha
     have h2:=hel i hi
     rw [hc] at h2
     have hlt:i<elems.length:=by omega
     rw [List.getElem?_eq_getElem hlt] at h2
     have hm:elems[i].1∈elems.map (·.1):=List.mem_map.2 ⟨_,List.getElem_mem hlt,rfl⟩
     have:=bulk_mem hm
     exact ih _ _ _ h2 (by omega) m
   ·rename_i ht
    obtain ⟨xs,n,hf,hx,hl,hxl,hxi⟩:=DataW.trod_struct ht h
    obtain rfl:fuel=n:=by omega
    intro i f hi
    have h3:=hxi i f hi
    have hlt:i<xs.length:=by rw [hxl]; exact (Array.getElem?_eq_some_iff.1 hi).1
    rw [List.getElem?_eq_getElem hlt] at h3
    rw [hx] at hB
    simp only [uptoBulk] at hB
    have hm:xs[i].1∈xs.map (·.1):=List.mem_map.2 ⟨_,List.getElem_mem hlt,rfl⟩
    have:=bulk_mem hm
    exact ih _ _ _ h3 (by omega) m
   ·rename_i ht
    obtain ⟨xs,n,hf,hx,hl,hxl,hxi⟩:=DataW.trod_array ht h
    obtain rfl:fuel=n:=by omega
    intro i hi
    have h3:=hxi i hi
    rw [List.getElem?_eq_getElem (by omega)] at h3
    rw [hx] at hB
    simp only [uptoBulk] at hB
    have hm:xs[i].1∈xs.map (·.1):=List.mem_map.2 ⟨_,List.getElem_mem (by omega),rfl⟩
    have:=bulk_mem hm
    exact ih _ _ _ h3 (by omega) m
   ·trivial
theorem bk_of {B:Nat} {t:TypeId} {v:Value} {d:DataW H} {ps:List MemPlace} (h:DataW.Trod enc P w 0 (fun _=>true) true t v d ps) (hB:uptoBulk d≤B) (m:Nat):Bk P w B m t v.cells.toList:=by
 obtain ⟨fuel,hf⟩:=h
 exact bk_trod fuel _ _ _ hf hB m
theorem row_upto {C:Checked} {os:Os} {k:FuncId} {fn:Func} {s:ChangeSpec} {F:Stop.Interp} {conds:List PathCond} {apart fresh:Bool} {tb:TypeId}
  (own:ownKnob C.prog.godebug=none) (started:os.Started) (noInit:C.prog.inits.idxOf? k=none) (hfn:C.prog.funcs[k]?=some fn)
  (witness:∃(w:World) (tape:Tape) (i:Input),w.os=os∧(w.forCall tape i).Shaped C.prog∧i.vars=[]∧Input.okWide C.prog (w.forCall tape i) .any w.heap.size k i∧
   (OpenSpec.upto s).pre6 enc C.prog fn conds apart (w.forCall tape i).memory i.args∧({} : Assume).holds C.prog (lone (Frame.enter C.prog k i.args .normal) [] (w.forCall tape i)))
  (hl:laidOutB C.prog=true) (hread:fn.params.toList.all (fun t=>C.prog.readableRec t&&decide (t<C.prog.types.size))=true)
  (hvars:s.vars=[]) (hres:fn.resultTypes=#[tb]) (hb:C.prog.underlying tb=some .bool)
  (hspec:∀ds:List (DataW H),ds.length=fn.params.toList.length→(s.fn H ds).results=[.lit (.bool true)]∧(s.fn H ds).args=ds∧(s.fn H ds).vars=[])
  (walk:∀(W:World) (base:Nat) (args:Array Value) (ds:List (DataW H)) (ps:List MemPlace),
   (∀(j:Nat) t v,fn.params[j]?=some t→args[j]?=some v→Value.okWide C.prog W .any base t v)→
   DataW.TrodAll enc C.prog W 0 (fun _=>true) true fn.params.toList args.toList ds ps→uptoBulkAll ds≤1048576→
   Calls C.prog k args W fun e W'=>e=.returned (.bool true)∧Below W.heap.size W W') :
  ReturnsInHanded {} C os k .any ((OpenSpec.upto s).pre6 enc C.prog fn conds apart) (((OpenSpec.upto s).at F).post enc C.prog fn apart fresh false false):=by
 refine returnsInHanded_of_cond (s:=OpenSpec.upto s) (k:=uptoSmall) rfl own started noInit hfn witness ?_
 intro W base args ds gs before hval hW hcnd hsmall _
 have hW':=hW
 obtain ⟨p,q,hA,hV,rfl,hfz,hnd⟩:=hW
 have hvars':(OpenSpec.upto s).vars=[]:=hvars
 rw [hvars'] at hV
 obtain ⟨rfl,rfl⟩:=trodVars_none hV
 rw [List.append_nil] at hsmall
 have hsmall:uptoBulkAll ds≤1048576:=by simpa [uptoSmall] using hsmall
 refine (walk W base args ds p hval hA hsmall).mono fun e W' ⟨he,bel⟩=>?_
 subst he
 have hn:=hspec ds (trodAll_length _ _ _ _ hA)
 refine ⟨_,rfl,ds,[],p++[],[],p,[],hW',?_,?_,?_,bel.frame _,fun h=>by cases h⟩
 ·have e1:(((OpenSpec.upto s).at F).fn H (ds++[])).results=[.lit (.bool true)]:=by rw [List.append_nil]; exact hn.1
  rw [e1,hres]
  exact trodAll_mk1 (shut_bool hb _)
 ·have e1:(((OpenSpec.upto s).at F).fn H (ds++[])).args=ds:=by rw [List.append_nil]; exact hn.2.1
  rw [e1]
  exact trodAll_below hl bel _ _ _ _ hread hA
 ·have e1:(((OpenSpec.upto s).at F).fn H (ds++[])).vars=[]:=by rw [List.append_nil]; exact hn.2.2
  have e2:((OpenSpec.upto s).at F).vars=[]:=hvars
  rw [e1,e2]
  rfl
end
end Go.Proofs.YtmhjehodfggleaaGreat.Vc

/- Slices over blocks of their own: indexing, storing, append, make. -/

set_option linter.unusedVariables false
set_option linter.unusedSimpArgs false
namespace Go.Proofs.YtmhjehodfggleaaGreat.Vc
open Go
def Own (w:World) (e:TypeId) (sz:Nat) (p:Option Addr) (n c:Nat) (xs:List Value):Prop:=
 (p=none∧n=0∧c=0∧xs=[])∨∃b cs,p=some ⟨b,0,none⟩∧Blk w b cs e∧n≤c∧c≤maxLen∧cs.length=c*sz∧cs.take (n*sz)=xs
def ob (p:Option Addr) (i:Nat):Prop:=∃a,p=some a∧a.block=i
section
variable {w w':World} {e:TypeId} {sz:Nat} {p:Option Addr} {n c:Nat} {xs:List Value}
theorem Own.nil (w:World) (e:TypeId) (sz:Nat):Own w e sz none 0 0 []:=Or.inl ⟨rfl,rfl,rfl,rfl⟩
theorem Own.len (h:Own w e sz p n c xs):xs.length=n*sz:=by
 rcases h with ⟨_,rfl,_,rfl⟩ | ⟨b,cs,_,_,h1,_,h2,rfl⟩
 ·simp
 ·rw [List.length_take,h2]; exact Nat.min_eq_left (Nat.mul_le_mul_right _ h1)
theorem Own.le (h:Own w e sz p n c xs):n≤c∧c≤maxLen:=by
 rcases h with ⟨_,rfl,rfl,rfl⟩ | ⟨b,cs,_,_,h1,h2,_,_⟩
 ·exact ⟨Nat.le_refl _,Nat.zero_le _⟩
 ·exact ⟨h1,h2⟩
theorem Own.keep {S:Nat→Prop} (h:Own w e sz p n c xs) (hk:Keep S w w') (hs:∀i,ob p i→¬S i):Own w' e sz p n c xs:=by
 rcases h with h | ⟨b,cs,hp,hB,h⟩
 ·exact Or.inl h
 ·exact Or.inr ⟨b,cs,hp,hB.keep hk (hs b ⟨_,hp,rfl⟩),h⟩
theorem Own.drew (h:Own w e sz p n c xs):Own w.drew e sz p n c xs:=h
theorem Own.keep0 (h:Own w e sz p n c xs) (hk:Keep None w w'):Own w' e sz p n c xs:=h.keep hk fun _ _ h=>h
theorem Own.lt (h:Own w e sz p n c xs):∀i,ob p i→i<w.heap.size:=by
 rcases h with ⟨rfl,_⟩ | ⟨b,cs,rfl,hB,h⟩
 ·rintro i ⟨a,h,_⟩; cases h
 ·rintro i ⟨a,h,rfl⟩; cases h; exact hB.lt
theorem Own.cell {b:Nat} (h:Own w e sz (some ⟨b,0,none⟩) n c xs) (j:Nat) (hj:j<n*sz):w.cell? ⟨b,j,none⟩=xs[j]?:=by
 rcases h with ⟨h,_⟩ | ⟨b',cs,hp,hB,h1,h2,h3,rfl⟩
 ·cases h
 ·cases hp
  rw [hB.cell,List.getElem?_take,if_pos hj]
theorem Own.ix {i:Int} {K:Addr→Prop} (h:Own w e sz p n c xs) (h0:0≤i) (h1:i<n)
  (hk:∀b,p=some ⟨b,0,none⟩→K ⟨b,i.toNat*sz,none⟩):ixA p n i sz K:=by
 rcases h with ⟨_,rfl,_,_⟩ | ⟨b,cs,rfl,_⟩
 ·exfalso; omega
 ·refine ⟨h0,h1,?_⟩
  show K _
  rw [add_mk,Nat.zero_add]
  exact hk b rfl
theorem Own.st {b j:Nat} {v:Value} {K:World→Prop} (h:Own w e sz (some ⟨b,0,none⟩) n c xs) (hj:j<n*sz) (hv:v.oneCell'=true)
  (hk:∀w',Own w' e sz (some ⟨b,0,none⟩) n c (xs.set j v)→Keep (One b) w w'→w'.heap.size=w.heap.size→K w'):st w ⟨b,j,none⟩ v K:=by
 rcases h with ⟨h,_⟩ | ⟨b',cs,hp,hB,h1,h2,h3,rfl⟩
 ·cases h
 ·cases hp
  have hle:n*sz≤c*sz:=Nat.mul_le_mul_right _ h1
  refine st_of hB (by omega) hv fun w' hB' k1 k2=>hk w' (Or.inr ⟨b,_,rfl,hB',h1,h2,by rw [List.length_set]; exact h3,?_⟩) k1 k2
  rw [List.take_set]
theorem Own.cut {m:Nat} (h:Own w e sz p n c xs) (hm:m≤n):Own w e sz p m c (xs.take (m*sz)):=by
 rcases h with ⟨rfl,rfl,rfl,rfl⟩ | ⟨b,cs,hp,hB,h1,h2,h3,rfl⟩
 ·obtain rfl:m=0:=by omega
  exact Or.inl ⟨rfl,rfl,rfl,by simp⟩
 ·refine Or.inr ⟨b,cs,hp,hB,by omega,h2,h3,?_⟩
  rw [List.take_take,Nat.min_eq_left (Nat.mul_le_mul_right _ hm)]
theorem Own.row {base:Nat} (h:Own w e sz p n c xs) (hb:∀i,ob p i→base≤i):w.ownsRow base e sz (.slice p n c) n xs:=by
 refine ⟨h.len,?_⟩
 rcases h with ⟨rfl,rfl,rfl,rfl⟩ | ⟨b,cs,rfl,hB,h1,h2,h3,rfl⟩
 ·exact Or.inl ⟨rfl,rfl⟩
 ·exact Or.inr ⟨b,c,cs.toArray,rfl,hb b ⟨_,rfl,rfl⟩,hB,h1,h2,by simpa using h3,by simp⟩
end
def News (w:World) (sz:Nat) (q:Option Addr) (m mc:Nat) (news:List Value):Prop:=
 (q=none∧m=0∧mc=0∧news=[])∨∃a,q=some a∧news.length=m*sz∧∀j u,news[j]?=some u→w.cell? (a.add j)=some u
theorem Own.news {w:World} {e:TypeId} {sz:Nat} {p:Option Addr} {n c:Nat} {xs:List Value} (h:Own w e sz p n c xs):News w sz p n c xs:=by
 have hl:=h.len
 rcases h with h | ⟨b,cs,rfl,hB,h1,h2,h3,rfl⟩
 ·exact Or.inl ⟨h.1,h.2.1,h.2.2.1,h.2.2.2⟩
 ·refine Or.inr ⟨_,rfl,hl,fun j u hu=>?_⟩
  rw [add_mk,Nat.zero_add,hB.cell]
  rw [List.getElem?_take] at hu
  split at hu
  ·exact hu
  ·cases hu
theorem Blk.news1 {w:World} {b:Nat} {v:Value} {t:TypeId} (h:Blk w b [v] t):News w 1 (some ⟨b,0,none⟩) 1 1 [v]:=
 Or.inr ⟨_,rfl,rfl,fun j u hu=>by
  rw [add_mk,Nat.zero_add,h.cell]; exact hu⟩
theorem app_of {P:Program} {w:World} {t ty e:TypeId} {sz B:Nat} {z:Value} {p:Option Addr} {n c:Nat} {xs:List Value} {q:Option Addr} {m mc:Nat} {news:List Value}
  {K:Option Addr→Nat→Nat→World→Prop}
  (ht:P.underlying t=some (.slice e)) (hi0:(P.info? e).map (fun i=>(i.zero,i.size,i.bytes))=some (some z,sz,B)) (hzs:z.cells.size=sz) (hsz:0<sz)
  (hO:Own w e sz p n c xs) (hN:News w sz q m mc news) (h1:∀u∈news,u.oneCell'=true) (h63:n+m≤maxLen) (hbytes:(n+m)*B≤140737488355328)
  (hk:∀p' c' w',Own w' e sz p' (n+m) c' (xs++news)→Keep (ob p) w w'→(∀i,ob p' i→ob p i∨w.heap.size≤i)→K p' (n+m) c' w') :
  ∃(p':Option Addr) (n' c':Nat),∃w':World,(Builtin.append_ #[t,t] ty #[.slice p n c,.slice q m mc]).run P w=.ok (.slice p' n' c') w'∧K p' n' c' w':=by
 obtain ⟨i,hi,hi'⟩:=Option.map_eq_some_iff.1 hi0
 simp only [Prod.mk.injEq] at hi'
 obtain ⟨hz,rfl,rfl⟩:=hi'
 have hsmall:n+m≤9223372036854775807:=by simp only [maxLen] at h63; omega
 have kd:∀o,Keep (ob p) w (w.drew.alloc o):=fun o=>((Keep.refl _ w).drew).alloc o
 have hlen0:=hO.len
 -- the grown row
 have grown:∀(hl:news.length=m*i.size) (old:Nat),old<n+m→
   Own (w.drew.alloc (.cells (xs.toArray++news.toArray++Builtin.zeroCells z.cells (grownCap w (n+m) old e - (n+m))) e)) e i.size (some ⟨w.heap.size,0,none⟩) (n+m) (grownCap w (n+m) old e) (xs++news):=by
  intro hl old ho
  have hge:=grownCap_ge w (n+m) old e
  have hcm:grownCap w (n+m) old e≤maxLen:=grownCap_le_maxLen w (n+m) old e h63
  refine Or.inr ⟨w.heap.size,(xs.toArray++news.toArray++Builtin.zeroCells z.cells (grownCap w (n+m) old e - (n+m))).toList,rfl,heap_alloc_new w.drew _,hge,hcm,?_,?_⟩
  ·simp only [Array.length_toList,Array.size_append,List.size_toArray,size_zeroCells,hzs,hlen0,hl,←Nat.add_mul]
   congr 1
   omega
  ·have hlen:(xs++news).length=(n+m)*i.size:=by rw [List.length_append,hlen0,hl,Nat.add_mul]
   simp only [Array.toList_append]
   rw [←hlen]
   exact List.take_left
 rcases hN with ⟨rfl,rfl,rfl,rfl⟩ | ⟨a,rfl,hl,hnews⟩
 ·-- nothing
  refine ⟨p,n,c,w,?_,hk p c w (by simpa using hO) (Keep.refl _ w) fun i h=>Or.inl h⟩
  rcases hO with ⟨rfl,rfl,rfl,rfl⟩ | ⟨g,cs,rfl,hB,hnc,hcm,hcs,rfl⟩
  ·simp [Builtin.append_,run_underlying ht,sizeOf,typeInfo,hi,Builtin.lenOf,Builtin.firstCells,loadCells,loadCellsFrom]
  ·simp [Builtin.append_,run_underlying ht,sizeOf,typeInfo,hi,Builtin.lenOf,Builtin.firstCells,loadCells,loadCellsFrom,hnc,storeCells]
 ·rcases hO with ⟨rfl,rfl,rfl,rfl⟩ | ⟨g,cs,rfl,hB,hnc,hcm,hcs,rfl⟩
  ·by_cases hm:m=0
   ·subst hm
    have hn:news=[]:=List.eq_nil_of_length_eq_zero (by simpa using hl)
    subst hn
    refine ⟨Option.none,0,0,w,?_,hk Option.none 0 w (by simpa using Own.nil w e i.size) (Keep.refl _ w) fun i h=>Or.inl h⟩
    simp [Builtin.append_,run_underlying ht,sizeOf,typeInfo,hi,Builtin.lenOf,Builtin.firstCells,loadCells,loadCellsFrom]
   ·have hr:=run_append_nil (P:=P) w t ty e i z ht hi hz a m mc news hl hnews (by omega) (by omega) (by have hb:=hbytes; simp only [Nat.zero_add] at hb; omega)
    have hgr:=grown hl 0 (by omega)
    simp only [Nat.zero_add,List.nil_append,Array.empty_append] at hgr hk ⊢
    exact ⟨_,_,_,_,hr,hk _ _ _ hgr (kd _) fun i ⟨a,h,h'⟩=>Or.inr (by cases h; exact Nat.le_of_eq h')⟩
  ·have hxs:(cs.take (n*i.size)).length=n*i.size:=hlen0
   by_cases hroom:n+m≤c
   ·have hle:(n+m)*i.size≤c*i.size:=Nat.mul_le_mul_right _ hroom
    rw [Nat.add_mul] at hle
    have hfit:n*i.size+news.length≤cs.toArray.size:=by rw [hl,List.size_toArray,hcs]; exact hle
    have hr:=run_append_room (P:=P) w t ty e i ht hi g n c cs.toArray hB a m mc news hl hnews h1 hroom hfit
    refine ⟨_,_,_,_,hr,hk _ _ _ (Or.inr ⟨g,cs.take (n*i.size)++news++cs.drop (n*i.size+news.length),rfl,setRow_heap w g cs.toArray _ e _ hB,hroom,hcm,?_,?_⟩) ⟨rfl,rfl,rfl,by simp,fun k _ hk'=>setRow_other w g k _ (fun e=>hk' (e ▸ ⟨_,rfl,rfl⟩))⟩ fun i h=>Or.inl h⟩
    ·simp only [List.length_append,hxs,List.length_drop,hl]
     omega
    ·have hlen:(cs.take (n*i.size)++news).length=(n+m)*i.size:=by rw [List.length_append,hxs,hl,Nat.add_mul]
     rw [←hlen]
     exact List.take_left
   ·have holds:∀j u,(cs.take (n*i.size))[j]?=some u→w.cell? ((⟨g,0,none⟩:Addr).add j)=some u:=fun j u hu=>by
     rw [add_mk,Nat.zero_add,hB.cell]
     rw [List.getElem?_take] at hu
     split at hu
     ·exact hu
     ·cases hu
    have hr:=run_append_grow (P:=P) w t ty e i z ht hi hz ⟨g,0,none⟩ n c (cs.take (n*i.size)) hxs holds a m mc news hl hnews (by omega) (by omega) (growslice_fits (by omega) hbytes)
    have hgr:=grown hl c (by omega)
    exact ⟨_,_,_,_,hr,hk _ _ _ hgr (kd _) fun i ⟨a,h,h'⟩=>Or.inr (by cases h; exact Nat.le_of_eq h')⟩
end Go.Proofs.YtmhjehodfggleaaGreat.Vc

/- The conditions under which the functions printed here return, as propositions over typed values; each is the machine's own, by the generator's theorem. -/

set_option linter.unusedVariables false
set_option maxRecDepth 100000
namespace Go.Proofs.YtmhjehodfggleaaGreat.T
open Go Go.Proofs.YtmhjehodfggleaaGreat.Vc
def V43 (a0:Int) (w:World) (R:Value→World→Prop):Prop:=
 pif (cond (decide (a0<0)) true (decide (a0>1048576))) (
  R (.tuple #[.pointer none,.int .i64 2]) w) (
  (
   ∃(x4:Option Addr) (x4n x4c:Nat),∃w1:World,(Instr.makeSlice 150 (.int .i64 a0) (.int .i64 a0)).run Tryz.prog (World.drew w)=.ok (.slice x4 x4n x4c) w1∧
   ∃(x5:Option Addr) (x5n x5c:Nat),∃w2:World,(Instr.makeSlice 151 (.int .i64 a0) (.int .i64 a0)).run Tryz.prog w1=.ok (.slice x5 x5n x5c) w2∧
   alc w2 [.slice none 0 0,.slice none 0 0,.slice x4 x4n x4c,.slice x5 x5n x5c] 154 fun b6 w3=>
   R (.tuple #[.pointer (some (⟨b6,0,none⟩:Addr)),.int .i64 0]) w3)∧
  (
   ∃(x7:Option Addr) (x7n x7c:Nat),∃w4:World,(Instr.makeSlice 151 (.int .i64 a0) (.int .i64 a0)).run Tryz.prog (World.drew w)=.ok (.slice x7 x7n x7c) w4∧
   ∃(x8:Option Addr) (x8n x8c:Nat),∃w5:World,(Instr.makeSlice 150 (.int .i64 a0) (.int .i64 a0)).run Tryz.prog w4=.ok (.slice x8 x8n x8c) w5∧
   alc w5 [.slice none 0 0,.slice none 0 0,.slice x8 x8n x8c,.slice x7 x7n x7c] 154 fun b9 w6=>
   R (.tuple #[.pointer (some (⟨b9,0,none⟩:Addr)),.int .i64 0]) w6))
def An43:An:=.seq (.leaf) (.seq (.seq (.leaf) (.cond (.seq (.leaf) (.leaf)) (.leaf))) (.seq (.draw [0,1,0,4,15,31,63,127]) (.leaf)))
theorem V43_eq (a0:Int) (w:World) (R:Value→World→Prop):evF Tryz.prog Tryz.f43 An43 [.int .i64 a0] w R=V43 a0 w R:=by kernel_rfl
theorem V43_calls (a0:Int) (w:World) (R:Value→World→Prop) (h:V43 a0 w R):Calls Tryz.prog 43 #[.int .i64 a0] w fun e w'=>∃v,e=.returned v∧R v w':=
 calls_of_ev (args:=[.int .i64 a0]) Tryz.func43 (Nat.le_of_ble_eq_true (by kernel_rfl)) (by rw [V43_eq]; exact h)
theorem ok43:fnOk Tryz.prog 43=true:=by kernel_rfl
def V115 (a0:Option Addr) (a1:Int) (w:World) (R:Value→World→Prop):Prop:=
 cl Tryz.prog 103 [.int .i64 a1] w fun e4 w1=>∃x3:Int,e4=Ending.returned (.int .i64 x3)∧
 gd (α:=Addr) (decide (x3≥1)) (fun k5=>
  nn a0 fun p6=>
  k5 p6 (World.drew w1)) ⟨0,0,none⟩ (World.drew w1) fun x7 _=>
 gd (α:=(Option Addr×Nat×Nat)) (decide (x3≥1)) (fun k8=>
  ldC (World.drew w1) (x7.add 2) fun x9 x9n x9c=>
  k8 (x9,x9n,x9c) (World.drew w1)) (none,0,0) (World.drew w1) fun x10 _=>
 R (.tuple #[.int .i64 (IntKind.wrap .i64 (x3 - 1)),.bool (cond (decide (x3≥1)) (decide (x3≤(x10.2.1:Int))) false)]) (World.drew w1)
def An115:An:=.seq (.leaf) (.seq (.leaf) (.seq (.draw [0,1,0,4,12,28,28,92,220,476,988,2044,4092,31,16383]) (.leaf)))
theorem V115_eq (a0:Option Addr) (a1:Int) (w:World) (R:Value→World→Prop):evF Tryz.prog Tryz.f115 An115 [.pointer a0,.int .i64 a1] w R=V115 a0 a1 w R:=by kernel_rfl
theorem V115_calls (a0:Option Addr) (a1:Int) (w:World) (R:Value→World→Prop) (h:V115 a0 a1 w R):Calls Tryz.prog 115 #[.pointer a0,.int .i64 a1] w fun e w'=>∃v,e=.returned v∧R v w':=
 calls_of_ev (args:=[.pointer a0,.int .i64 a1]) Tryz.func115 (Nat.le_of_ble_eq_true (by kernel_rfl)) (by rw [V115_eq]; exact h)
theorem ok115:fnOk Tryz.prog 115=true:=by kernel_rfl
def V72 (a0:Option Addr) (a1:Int) (w:World) (R:Value→World→Prop):Prop:=
 cl Tryz.prog 115 [.pointer a0,.int .i64 a1] w fun e5 w1=>∃x3:Int,∃x4:Bool,e5=Ending.returned (.tuple #[.int .i64 x3,.bool x4])∧
 pif (!x4) (
  R (.int .i8 0) w1) (
  pif (decide (a1<0)) (
   nn a0 fun p10=>
   ldC w1 (p10.add 2) fun x11 x11n x11c=>
   ixA x11 x11n x3 1 fun p12=>
   ldI .i8 w1 p12 fun x13=>
   R (.int .i8 (IntKind.wrap .i8 (0 - x13))) w1) (
   nn a0 fun p15=>
   ldC w1 (p15.add 2) fun x16 x16n x16c=>
   ixA x16 x16n x3 1 fun p17=>
   ldI .i8 w1 p17 fun x18=>
   R (.int .i8 x18) w1))
def An72:An:=.seq (.leaf) (.seq (.leaf) (.seq (.seq (.leaf) (.cond (.seq (.leaf) (.leaf)) (.leaf))) (.seq (.seq (.leaf) (.cond (.seq (.leaf) (.leaf)) (.leaf))) (.seq (.leaf) (.leaf)))))
theorem V72_eq (a0:Option Addr) (a1:Int) (w:World) (R:Value→World→Prop):evF Tryz.prog Tryz.f72 An72 [.pointer a0,.int .i64 a1] w R=V72 a0 a1 w R:=by kernel_rfl
theorem V72_calls (a0:Option Addr) (a1:Int) (w:World) (R:Value→World→Prop) (h:V72 a0 a1 w R):Calls Tryz.prog 72 #[.pointer a0,.int .i64 a1] w fun e w'=>∃v,e=.returned v∧R v w':=
 calls_of_ev (args:=[.pointer a0,.int .i64 a1]) Tryz.func72 (Nat.le_of_ble_eq_true (by kernel_rfl)) (by rw [V72_eq]; exact h)
theorem ok72:fnOk Tryz.prog 72=true:=by kernel_rfl
def V138 (a0:Option Addr) (a1:Int) (w:World) (R:Value→World→Prop):Prop:=
 cl Tryz.prog 115 [.pointer a0,.int .i64 a1] w fun e5 w1=>∃x3:Int,∃x4:Bool,e5=Ending.returned (.tuple #[.int .i64 x3,.bool x4])∧
 pif (!x4) (
  R (.int .i64 1) w1) (
  nn a0 fun p9=>
  ldC w1 (p9.add 2) fun x10 x10n x10c=>
  ixA x10 x10n x3 1 fun p11=>
  ldI .i8 w1 p11 fun x12=>
  pif (x12 != 0) (
   R (.int .i64 50) w1) (
   R (.int .i64 0) w1))
def An138:An:=.seq (.leaf) (.seq (.leaf) (.seq (.blk (.seq (.leaf) (.cond (.seq (.leaf) (.leaf)) (.seq (.leaf) (.cond (.seq (.leaf) (.leaf)) (.leaf)))))) (.seq (.leaf) (.leaf))))
theorem V138_eq (a0:Option Addr) (a1:Int) (w:World) (R:Value→World→Prop):evF Tryz.prog Tryz.f138 An138 [.pointer a0,.int .i64 a1] w R=V138 a0 a1 w R:=by kernel_rfl
theorem V138_calls (a0:Option Addr) (a1:Int) (w:World) (R:Value→World→Prop) (h:V138 a0 a1 w R):Calls Tryz.prog 138 #[.pointer a0,.int .i64 a1] w fun e w'=>∃v,e=.returned v∧R v w':=
 calls_of_ev (args:=[.pointer a0,.int .i64 a1]) Tryz.func138 (Nat.le_of_ble_eq_true (by kernel_rfl)) (by rw [V138_eq]; exact h)
theorem ok138:fnOk Tryz.prog 138=true:=by kernel_rfl
def V139 (a0:Option Addr) (a1:Int) (a2:Int) (w:World) (R:Value→World→Prop):Prop:=
 cl Tryz.prog 115 [.pointer a0,.int .i64 a1] w fun e4 w1=>∃x2:Int,∃x3:Bool,e4=Ending.returned (.tuple #[.int .i64 x2,.bool x3])∧
 nn a0 fun p6=>
 ldC w1 (p6.add 2) fun x7 x7n x7c=>
 ixA x7 x7n x2 1 fun p8=>
 st w1 (p8.add 0) (.int .i8 1) fun w2=>
 jn (σ:=Unit) (fun k9=>
  pif (decide (a1<0)) (
   nn a0 fun p13=>
   ldC w2 (p13.add 2) fun x14 x14n x14c=>
   ixA x14 x14n x2 1 fun p15=>
   st w2 (p15.add 0) (.int .i8 (-1)) fun w4=>
   k9 (()) w4) (
   k9 (()) w2)) fun s10 w3=>match s10 with
 | (_)=>
 nn a0 fun p16=>
 ldC (World.drew w3) (p16.add 3) fun x17 x17n x17c=>
 nn a0 fun p18=>
 ldC (World.drew w3) (p18.add 1) fun x19 x19n x19c=>
 ixA x17 x17n x2 2 fun p20=>
 st (World.drew w3) (p20.add 0) (.int .i64 (x19n:Int)) fun w5=>
 st w5 (p20.add 1) (.int .i64 a2) fun w6=>
 nn a0 fun p22=>
 ldC w6 (p22.add 0) fun x23 x23n x23c=>
 alc w6 [.int .i64 a1] 3 fun b24 w7=>
 ∃(x25:Option Addr) (x25n x25c:Nat),∃w8:World,(Builtin.append_ #[49,49] 49 #[.slice x23 x23n x23c,.slice (some (⟨b24,0,none⟩:Addr)) 1 1]).run Tryz.prog w7=.ok (.slice x25 x25n x25c) w8∧
 nn a0 fun p26=>
 st w8 ((p26.add 0).add 0) (.slice x25 x25n x25c) fun w9=>
 R (.tuple #[]) w9
def An139:An:=.seq (.leaf) (.seq (.leaf) (.seq (.join [] (.seq (.leaf) (.cond (.leaf) (.leaf)))) (.seq (.draw [0,1,3,7,0,0,32,96,224,480,0,2016,4095,8191]) (.leaf))))
theorem V139_eq (a0:Option Addr) (a1:Int) (a2:Int) (w:World) (R:Value→World→Prop):evF Tryz.prog Tryz.f139 An139 [.pointer a0,.int .i64 a1,.int .i64 a2] w R=V139 a0 a1 a2 w R:=by kernel_rfl
theorem V139_calls (a0:Option Addr) (a1:Int) (a2:Int) (w:World) (R:Value→World→Prop) (h:V139 a0 a1 a2 w R):Calls Tryz.prog 139 #[.pointer a0,.int .i64 a1,.int .i64 a2] w fun e w'=>∃v,e=.returned v∧R v w':=
 calls_of_ev (args:=[.pointer a0,.int .i64 a1,.int .i64 a2]) Tryz.func139 (Nat.le_of_ble_eq_true (by kernel_rfl)) (by rw [V139_eq]; exact h)
theorem ok139:fnOk Tryz.prog 139=true:=by kernel_rfl
def V106 (a0:Option Addr) (a1:Int) (w:World) (R:Value→World→Prop):Prop:=
 cl Tryz.prog 138 [.pointer a0,.int .i64 a1] w fun e4 w1=>∃x3:Int,e4=Ending.returned (.int .i64 x3)∧
 pif (x3 != 0) (
  R (.int .i64 x3) w1) (
  nn a0 fun p7=>
  ldC (World.drew w1) (p7.add 1) fun x8 x8n x8c=>
  nn a0 fun p9=>
  ldC (World.drew w1) (p9.add 0) fun x10 x10n x10c=>
  alc (World.drew w1) [.int .i64 (x10n:Int)] 194 fun b11 w2=>
  (
   ldC w2 (p7.add 1) fun x12 x12n x12c=>
   ((.slice x12 x12n x12c:Value)=.slice x8 x8n x8c))∧
  ∃(x13:Option Addr) (x13n x13c:Nat),∃w3:World,(Builtin.append_ #[152,152] 152 #[.slice x8 x8n x8c,.slice (some (⟨b11,0,none⟩:Addr)) 1 1]).run Tryz.prog w2=.ok (.slice x13 x13n x13c) w3∧
  nn a0 fun p14=>
  st w3 ((p14.add 1).add 0) (.slice x13 x13n x13c) fun w4=>
  cl Tryz.prog 139 [.pointer a0,.int .i64 a1,.int .i64 (-1)] w4 fun e16 w5=>e16=Ending.returned (.tuple #[])∧
  R (.int .i64 0) w5)
def An106:An:=.seq (.leaf) (.seq (.seq (.leaf) (.seq (.leaf) (.cond (.seq (.leaf) (.leaf)) (.leaf)))) (.seq (.draw [0,0,2,6,14,0,32,96,224,480,992,2016,4064,8190,16383,32767,65535]) (.seq (.leaf) (.seq (.leaf) (.leaf)))))
theorem V106_eq (a0:Option Addr) (a1:Int) (w:World) (R:Value→World→Prop):evF Tryz.prog Tryz.f106 An106 [.pointer a0,.int .i64 a1] w R=V106 a0 a1 w R:=by kernel_rfl
theorem V106_calls (a0:Option Addr) (a1:Int) (w:World) (R:Value→World→Prop) (h:V106 a0 a1 w R):Calls Tryz.prog 106 #[.pointer a0,.int .i64 a1] w fun e w'=>∃v,e=.returned v∧R v w':=
 calls_of_ev (args:=[.pointer a0,.int .i64 a1]) Tryz.func106 (Nat.le_of_ble_eq_true (by kernel_rfl)) (by rw [V106_eq]; exact h)
theorem ok106:fnOk Tryz.prog 106=true:=by kernel_rfl
def V105 (a0:Option Addr) (a1:Int) (a2:Int) (w:World) (R:Value→World→Prop):Prop:=
 cl Tryz.prog 138 [.pointer a0,.int .i64 a1] w fun e4 w1=>∃x3:Int,e4=Ending.returned (.int .i64 x3)∧
 pif (x3 != 0) (
  R (.int .i64 x3) w1) (
  pif (decide (a2<0)) (
   R (.int .i64 2) w1) (
   cl Tryz.prog 139 [.pointer a0,.int .i64 a1,.int .i64 a2] w1 fun e10 w2=>e10=Ending.returned (.tuple #[])∧
   R (.int .i64 0) w2))
def An105:An:=.seq (.leaf) (.seq (.seq (.leaf) (.seq (.leaf) (.cond (.seq (.leaf) (.leaf)) (.leaf)))) (.seq (.seq (.leaf) (.cond (.seq (.leaf) (.leaf)) (.leaf))) (.seq (.leaf) (.seq (.leaf) (.leaf)))))
theorem V105_eq (a0:Option Addr) (a1:Int) (a2:Int) (w:World) (R:Value→World→Prop):evF Tryz.prog Tryz.f105 An105 [.pointer a0,.int .i64 a1,.int .i64 a2] w R=V105 a0 a1 a2 w R:=by kernel_rfl
theorem V105_calls (a0:Option Addr) (a1:Int) (a2:Int) (w:World) (R:Value→World→Prop) (h:V105 a0 a1 a2 w R):Calls Tryz.prog 105 #[.pointer a0,.int .i64 a1,.int .i64 a2] w fun e w'=>∃v,e=.returned v∧R v w':=
 calls_of_ev (args:=[.pointer a0,.int .i64 a1,.int .i64 a2]) Tryz.func105 (Nat.le_of_ble_eq_true (by kernel_rfl)) (by rw [V105_eq]; exact h)
theorem ok105:fnOk Tryz.prog 105=true:=by kernel_rfl
def V111 (a0:Option Addr) (w:World) (R:Value→World→Prop):Prop:=
 nn a0 fun p3=>
 ldC w (p3.add 1) fun x4 x4n x4c=>
 R (.int .i64 (x4n:Int)) w
def An111:An:=.seq (.leaf) (.seq (.leaf) (.leaf))
theorem V111_eq (a0:Option Addr) (w:World) (R:Value→World→Prop):evF Tryz.prog Tryz.f111 An111 [.pointer a0] w R=V111 a0 w R:=by kernel_rfl
theorem V111_calls (a0:Option Addr) (w:World) (R:Value→World→Prop) (h:V111 a0 w R):Calls Tryz.prog 111 #[.pointer a0] w fun e w'=>∃v,e=.returned v∧R v w':=
 calls_of_ev (args:=[.pointer a0]) Tryz.func111 (Nat.le_of_ble_eq_true (by kernel_rfl)) (by rw [V111_eq]; exact h)
theorem ok111:fnOk Tryz.prog 111=true:=by kernel_rfl
def V137 (a0:Option Addr) (a1:Int) (w:World) (R:Value→World→Prop):Prop:=
 alc w [.int .i64 0,.int .i64 0] 188 fun b2 w1=>
 cl Tryz.prog 115 [.pointer a0,.int .i64 a1] w1 fun e6 w2=>∃x4:Int,∃x5:Bool,e6=Ending.returned (.tuple #[.int .i64 x4,.bool x5])∧
 gd (α:=Addr) (!(cond (!x5) true (decide (a1<1)))) (fun k8=>
  nn a0 fun p9=>
  k8 p9 w2) ⟨0,0,none⟩ w2 fun x10 w3=>
 gd (α:=(Option Addr×Nat×Nat)) (!(cond (!x5) true (decide (a1<1)))) (fun k11=>
  ldC w3 (x10.add 2) fun x12 x12n x12c=>
  k11 (x12,x12n,x12c) w3) (none,0,0) w3 fun x13 w4=>
 gd (α:=Addr) (!(cond (!x5) true (decide (a1<1)))) (fun k14=>
  ixA x13.1 x13.2.1 x4 1 fun p15=>
  k14 p15 w4) ⟨0,0,none⟩ w4 fun x16 w5=>
 gd (α:=Int) (!(cond (!x5) true (decide (a1<1)))) (fun k17=>
  ldI .i8 w5 x16 fun x18=>
  k17 x18 w5) 0 w5 fun x19 w6=>
 pif (cond (cond (!x5) true (decide (a1<1))) true (x19==0)) (
  st w6 ((⟨b2,0,none⟩:Addr).add 0) (.int .i64 0) fun w7=>
  st w7 ((⟨b2,0,none⟩:Addr).add 1) (.int .i64 0) fun w8=>
  ldI .i64 w8 ((⟨b2,0,none⟩:Addr).add 0) fun x21=>
  ldI .i64 w8 ((⟨b2,0,none⟩:Addr).add 1) fun x22=>
  R (.tuple #[.agg #[.int .i64 x21,.int .i64 x22],.bool false]) w8) (
  nn a0 fun p24=>
  ldC w6 (p24.add 3) fun x25 x25n x25c=>
  ixA x25 x25n x4 2 fun p26=>
  ldI .i64 w6 (p26.add 0) fun x27=>
  ldI .i64 w6 (p26.add 1) fun x28=>
  st w6 ((⟨b2,0,none⟩:Addr).add 0) (.int .i64 x27) fun w9=>
  st w9 ((⟨b2,0,none⟩:Addr).add 1) (.int .i64 x28) fun w10=>
  ldI .i64 w10 ((⟨b2,0,none⟩:Addr).add 0) fun x29=>
  ldI .i64 w10 ((⟨b2,0,none⟩:Addr).add 1) fun x30=>
  R (.tuple #[.agg #[.int .i64 x29,.int .i64 x30],.bool true]) w10)
def An137:An:=.seq (.leaf) (.seq (.leaf) (.seq (.seq (.leaf) (.cond (.seq (.leaf) (.leaf)) (.leaf))) (.seq (.leaf) (.leaf))))
theorem V137_eq (a0:Option Addr) (a1:Int) (w:World) (R:Value→World→Prop):evF Tryz.prog Tryz.f137 An137 [.pointer a0,.int .i64 a1] w R=V137 a0 a1 w R:=by kernel_rfl
theorem V137_calls (a0:Option Addr) (a1:Int) (w:World) (R:Value→World→Prop) (h:V137 a0 a1 w R):Calls Tryz.prog 137 #[.pointer a0,.int .i64 a1] w fun e w'=>∃v,e=.returned v∧R v w':=
 calls_of_ev (args:=[.pointer a0,.int .i64 a1]) Tryz.func137 (Nat.le_of_ble_eq_true (by kernel_rfl)) (by rw [V137_eq]; exact h)
theorem ok137:fnOk Tryz.prog 137=true:=by kernel_rfl
def V102 (a0:Option Addr) (a1:Int) (w:World) (R:Value→World→Prop):Prop:=
 cl Tryz.prog 137 [.pointer a0,.int .i64 a1] w fun e6 w1=>∃x3:Int,∃x4:Int,∃x5:Bool,e6=Ending.returned (.tuple #[.agg #[.int .i64 x3,.int .i64 x4],.bool x5])∧
 alc w1 [.int .i64 0,.int .i64 0] 188 fun b7 w2=>
 st w2 ((⟨b7,0,none⟩:Addr).add 0) (.int .i64 x3) fun w3=>
 st w3 ((⟨b7,0,none⟩:Addr).add 1) (.int .i64 x4) fun w4=>
 pif x5 (
  ldI .i64 w4 ((⟨b7,0,none⟩:Addr).add 0) fun x10=>
  R (.int .i64 x10) w4) (
  R (.int .i64 (-1)) w4)
def An102:An:=.seq (.leaf) (.seq (.seq (.leaf) (.seq (.leaf) (.cond (.seq (.leaf) (.leaf)) (.leaf)))) (.seq (.leaf) (.leaf)))
theorem V102_eq (a0:Option Addr) (a1:Int) (w:World) (R:Value→World→Prop):evF Tryz.prog Tryz.f102 An102 [.pointer a0,.int .i64 a1] w R=V102 a0 a1 w R:=by kernel_rfl
theorem V102_calls (a0:Option Addr) (a1:Int) (w:World) (R:Value→World→Prop) (h:V102 a0 a1 w R):Calls Tryz.prog 102 #[.pointer a0,.int .i64 a1] w fun e w'=>∃v,e=.returned v∧R v w':=
 calls_of_ev (args:=[.pointer a0,.int .i64 a1]) Tryz.func102 (Nat.le_of_ble_eq_true (by kernel_rfl)) (by rw [V102_eq]; exact h)
theorem ok102:fnOk Tryz.prog 102=true:=by kernel_rfl
def V135 (a0:Option Addr) (a1:Int) (w:World) (R:Value→World→Prop):Prop:=
 cl Tryz.prog 137 [.pointer a0,.int .i64 a1] w fun e6 w1=>∃x3:Int,∃x4:Int,∃x5:Bool,e6=Ending.returned (.tuple #[.agg #[.int .i64 x3,.int .i64 x4],.bool x5])∧
 alc w1 [.int .i64 0,.int .i64 0] 188 fun b7 w2=>
 st w2 ((⟨b7,0,none⟩:Addr).add 0) (.int .i64 x3) fun w3=>
 st w3 ((⟨b7,0,none⟩:Addr).add 1) (.int .i64 x4) fun w4=>
 pif x5 (
  ldI .i64 w4 ((⟨b7,0,none⟩:Addr).add 1) fun x10=>
  R (.int .i64 x10) w4) (
  R (.int .i64 (-1)) w4)
def An135:An:=.seq (.leaf) (.seq (.seq (.leaf) (.seq (.leaf) (.cond (.seq (.leaf) (.leaf)) (.leaf)))) (.seq (.leaf) (.leaf)))
theorem V135_eq (a0:Option Addr) (a1:Int) (w:World) (R:Value→World→Prop):evF Tryz.prog Tryz.f135 An135 [.pointer a0,.int .i64 a1] w R=V135 a0 a1 w R:=by kernel_rfl
theorem V135_calls (a0:Option Addr) (a1:Int) (w:World) (R:Value→World→Prop) (h:V135 a0 a1 w R):Calls Tryz.prog 135 #[.pointer a0,.int .i64 a1] w fun e w'=>∃v,e=.returned v∧R v w':=
 calls_of_ev (args:=[.pointer a0,.int .i64 a1]) Tryz.func135 (Nat.le_of_ble_eq_true (by kernel_rfl)) (by rw [V135_eq]; exact h)
theorem ok135:fnOk Tryz.prog 135=true:=by kernel_rfl
def V104 (a0:Option Addr) (a1:Int) (w:World) (R:Value→World→Prop):Prop:=
 gd (α:=Addr) (!(decide (a1<0))) (fun k3=>
  nn a0 fun p4=>
  k3 p4 w) ⟨0,0,none⟩ w fun x5 w1=>
 gd (α:=(Option Addr×Nat×Nat)) (!(decide (a1<0))) (fun k6=>
  ldC w1 (x5.add 1) fun x7 x7n x7c=>
  k6 (x7,x7n,x7c) w1) (none,0,0) w1 fun x8 w2=>
 pif (cond (decide (a1<0)) true (decide (a1>(x8.2.1:Int)))) (
  R (.tuple #[.slice none 0 0,.int .i64 2]) w2) (
  nn a0 fun p11=>
  ldC w2 (p11.add 1) fun x12 x12n x12c=>
  pif (a1==(x12n:Int)) (
   R (.tuple #[.slice none 0 0,.int .i64 0]) w2) (
   nn a0 fun p15=>
   ldC w2 (p15.add 1) fun x16 x16n x16c=>
   ixA x16 x16n a1 1 fun p17=>
   ldI .i64 w2 ((p17.add 0).add 0) fun x18=>
   nn a0 fun p21=>
   ldC w2 (p21.add 0) fun x22 x22n x22c=>
   lp (σ:=(Option Addr×Nat×Nat)×Int×Unit) (fun s26 w3 k25=>match s26 with
    | ((v23,v23n,v23c),v24,_)=>
    pif (decide (v24≥x18)) (
     nn a0 fun p29=>
     ldC w3 (p29.add 0) fun x30 x30n x30c=>
     ixA x30 x30n v24 1 fun p31=>
     ldI .i64 w3 p31 fun x32=>
     cl Tryz.prog 115 [.pointer a0,.int .i64 x32] w3 fun e36 w4=>∃x34:Int,∃x35:Bool,e36=Ending.returned (.tuple #[.int .i64 x34,.bool x35])∧
     nn a0 fun p38=>
     ldC w4 (p38.add 2) fun x39 x39n x39c=>
     ixA x39 x39n x34 1 fun p40=>
     st w4 (p40.add 0) (.int .i8 0) fun w5=>
     alc w5 [.int .i64 x32] 3 fun b42 w6=>
     ∃(x43:Option Addr) (x43n x43c:Nat),∃w7:World,(Builtin.append_ #[49,49] 49 #[.slice v23 v23n v23c,.slice (some (⟨b42,0,none⟩:Addr)) 1 1]).run Tryz.prog w6=.ok (.slice x43 x43n x43c) w7∧
     k25 ((x43,x43n,x43c),(IntKind.wrap .i64 (v24 - 1)),()) w7) (
     nn a0 fun p46=>
     ldC w3 (p46.add 0) fun x47 x47n x47c=>
     (0:Int)≤x18∧x18≤(x47c:Int)∧
     nn a0 fun p48=>
     st w3 ((p48.add 0).add 0) (.slice (slA x47 x47c 0 1) ((Int.toNat x18) - 0) (x47c - 0)) fun w8=>
     nn a0 fun p50=>
     ldC w8 (p50.add 1) fun x51 x51n x51c=>
     (0:Int)≤a1∧a1≤(x51c:Int)∧
     nn a0 fun p52=>
     st w8 ((p52.add 1).add 0) (.slice (slA x51 x51c 0 1) ((Int.toNat a1) - 0) (x51c - 0)) fun w9=>
     R (.tuple #[.slice v23 v23n v23c,.int .i64 0]) w9)) ((none,0,0),(IntKind.wrap .i64 ((x22n:Int) - 1)),()) w2))
def An104:An:=.seq (.leaf) (.seq (.seq (.leaf) (.cond (.seq (.leaf) (.leaf)) (.leaf))) (.seq (.seq (.leaf) (.cond (.seq (.leaf) (.leaf)) (.leaf))) (.seq (.leaf) (.seq (.leaf) (.seq (.seq (.leaf) (.blk (.loop [(7,.one (.slc)),(8,.one (.int .i64))] (.seq (.seq (.leaf) (.cond (.leaf) (.leaf))) (.seq (.blk (.seq (.leaf) (.seq (.leaf) (.seq (.leaf) (.leaf))))) (.leaf)))))) (.seq (.leaf) (.seq (.leaf) (.seq (.leaf) (.leaf)))))))))
theorem V104_eq (a0:Option Addr) (a1:Int) (w:World) (R:Value→World→Prop):evF Tryz.prog Tryz.f104 An104 [.pointer a0,.int .i64 a1] w R=V104 a0 a1 w R:=by kernel_rfl
theorem V104_calls (a0:Option Addr) (a1:Int) (w:World) (R:Value→World→Prop) (h:V104 a0 a1 w R):Calls Tryz.prog 104 #[.pointer a0,.int .i64 a1] w fun e w'=>∃v,e=.returned v∧R v w':=
 calls_of_ev (args:=[.pointer a0,.int .i64 a1]) Tryz.func104 (Nat.le_of_ble_eq_true (by kernel_rfl)) (by rw [V104_eq]; exact h)
theorem ok104:fnOk Tryz.prog 104=true:=by kernel_rfl
end Go.Proofs.YtmhjehodfggleaaGreat.T
