/- An Engine in plain: what holds of it stays through every step. -/

import Derived.Test.YtmhjehodfggleaaGreatMEng21
set_option linter.unusedVariables false
set_option linter.unusedSimpArgs false
set_option linter.unusedSectionVars false
set_option maxRecDepth 100000
namespace Go.Proofs.YtmhjehodfggleaaGreat.Eng
open Go Go.Proofs.YtmhjehodfggleaaGreat.Vc Go.Proofs.YtmhjehodfggleaaGreat.T
open Go.Proofs.YtmhjehodfggleaaGreat.Apart (RdL own_rdl wrap_nat getE own_len take_snoc Sl sv New LL)
open Go.Proofs.YtmhjehodfggleaaGreat.Lits (fl fl_iff Ans ans_of formedP idx idx_range idx_inj indexP Td Srt)
open Go.Proofs.YtmhjehodfggleaaGreat.Trail (TI Tr St valA levA reaA ownB Moved TLaid above upto freeA implA Open ent)
def StE (S:ES):Prop:=St S.nv S.R S.L
structure WF (S:ES):Prop extends WfS S where
 st:StE S
theorem st_put {S:ES} (h:StE S) {l r:Int} (hl:Wi S.nv l) (h0:vl S l=0) (hr:0≤r):StE (putS S l r):=by
 have hf:=vl_free hl h0
 obtain ⟨ho,hop⟩:=Trail.freeA_open hf
 exact St.imply h ho hop hr
theorem st_single {S:ES} (h:StE S) {d:Hd} (hd:∀x∈d.ls,Wi S.nv x) (hat:0≤d.at_):StE (single S d).1:=by
 unfold single
 split
 ·rename_i l hf
  have h1:=List.mem_of_find?_eq_some hf
  have h2:=List.find?_some hf
  simp only [decide_eq_true_eq] at h2
  split
  ·exact h
  ·rename_i hn
   exact st_put h (hd l h1) (by rcases vl_cases S l with e | e | e<;>omega) hat
 ·exact h
theorem st_vstep {l:Int} {S:ES} {k:Nat} {todo stay:List Nat} {ok:Bool} (h:VI l S (k :: todo) stay) (hs:StE S):StE (vstep l (S,stay,ok) k).1:=by
 obtain ⟨d,hd,h0,h1,hne,hw⟩:=h.td k (by simp)
 obtain ⟨hdw,_,_,hat⟩:=h.wf.hl k d hd
 have how:Wi S.nv (other d l):=by
  obtain ⟨o1,_⟩:=other_of hw hne
  rcases o1 with o1 | o1<;>rw [o1]
  ·exact hdw _ h0
  ·exact hdw _ h1
 unfold vstep
 dsimp only
 rw [hd]
 dsimp only
 split
 ·exact hs
 ·split
  ·exact hs
  ·split
   ·exact hs
   ·split
    ·exact hs
    ·split
     ·rename_i he; exact st_put hs how he hat
     ·exact hs
theorem st_fold {l:Int} : ∀(todo:List Nat) (S:ES) (stay:List Nat) (ok:Bool),VI l S todo stay→StE S→StE (todo.foldl (vstep l) (S,stay,ok)).1
 | [],S,stay,ok,h,hs=>hs
 | k :: todo,S,stay,ok,h,hs=>st_fold todo _ _ (vstep l (S,stay,ok) k).2.2 h.step (st_vstep h hs)
theorem st_visit {S:ES} (h:WfE S) (hs:StE S) {l:Int} (hl:Wi S.nv l):StE (visit S l).1:=st_fold (listAt S (idxN l)) {S with lists:=S.lists.set (idxN l) []} [] true (VI.start h hl) hs
theorem sfold_inv:∀(ids:List Nat) (acc:ES×Bool),WfE acc.1→StE acc.1→WfE (ids.foldl sstep acc).1∧StE (ids.foldl sstep acc).1
 | [],acc,hw,hs=>⟨hw,hs⟩
 | k :: ids,acc,hw,hs=>by
  refine sfold_inv ids _ (hw.sstep k) ?_
  unfold sstep
  split
  ·exact hs
  ·split
   ·exact hs
   ·rename_i d hd
    obtain ⟨a,_,_,b⟩:=hw.hl k d hd
    exact st_single hs a b
theorem spreadN_inv:∀(n:Nat) (S:ES),WfE S→StE S→WfE (spreadN n S).1∧StE (spreadN n S).1∧Fr {S with head:=(spreadN n S).1.head} (spreadN n S).1
 | 0,S,hw,hs=>⟨hw,hs,Fr.refl _⟩
 | n+1,S,hw,hs=>by
  unfold spreadN
  cases he:S.R[S.head]? with
  | none=>exact ⟨hw,hs,Fr.refl _⟩
  | some e=>
   dsimp only
   have hwi:Wi S.nv e.lit:=own_wi (hs.own e (List.mem_of_getElem? he))
   have hw':=hw.self (S.head+1) S.rest S.clash S.dead S.bad
   have v1:=hw'.visit (l:=-e.lit) (wi_neg hwi)
   have v2:=st_visit (S:={S with head:=S.head+1}) hw' hs (l:=-e.lit) (wi_neg hwi)
   have v3:=fr_visit {S with head:=S.head+1} (-e.lit)
   have v4:Fr {S with head:=(visit {S with head:=S.head+1} (-e.lit)).1.head} (visit {S with head:=S.head+1} (-e.lit)).1:={v3 with head:=rfl}
   split
   ·obtain ⟨a,b,c⟩:=spreadN_inv n _ v1 v2
    refine ⟨a,b,?_⟩
    refine Fr.trans (S1:={(visit {S with head:=S.head+1} (-e.lit)).1 with head:=(spreadN n (visit {S with head:=S.head+1} (-e.lit)).1).1.head}) ?_ c
    exact {v3 with head:=rfl}
   ·exact ⟨v1,v2,v4⟩
theorem WF.spread {S:ES} (h:WF S):WF (spread S).1:=by
 unfold Eng.spread
 split
 ·exact h
 dsimp only
 have hsh:WfE (shorts S).1∧StE (shorts S).1∧Fr S (shorts S).1:=by
  unfold shorts
  split
  ·have:=sfold_inv S.short (S,true) h.toWfE h.st
   exact ⟨this.1,this.2,fr_sfold S.short (S,true)⟩
  ·exact ⟨h.toWfE,h.st,Fr.refl _⟩
 obtain ⟨a,b,c⟩:=hsh
 have h1:∀{S1:ES},WfE S1→StE S1→Fr {S with head:=S1.head} S1→∀(r cl:Bool),WF {S1 with rest:=r,clash:=cl}:=fun {S1} hw hs hf r cl=>
  ⟨⟨⟨hw.nv,hw.hl,hw.cl,hw.ll,hw.nd,hw.w1⟩,by show ∀k∈S1.short,k<S1.H.length; rw [hf.short,hf.hlen]; exact h.sh,by show ∀k∈S1.learnts,k<S1.H.length; rw [hf.learnts,hf.hlen]; exact h.le,by show S1.short.length≤_; rw [hf.short]; exact h.shl,by show S1.learnts.length≤_; rw [hf.learnts]; exact h.lel⟩,hs⟩
 split
 ·obtain ⟨d,e,f⟩:=spreadN_inv S.nv (shorts S).1 a b
  refine h1 d e ?_ _ _
  refine Fr.trans (S1:={(shorts S).1 with head:=(spreadN S.nv (shorts S).1).1.head}) ?_ f
  exact {c with head:=rfl}
 ·exact h1 a b {c with head:=rfl} _ _
theorem WF.dec {S:ES} (h:WF S) (l:Int):WF (decS S l):=by
 unfold decS
 split
 ·rename_i hd
  refine ⟨⟨⟨h.nv,h.hl,h.cl,h.ll,h.nd,h.w1⟩,h.sh,h.le,h.shl,h.lel⟩,?_⟩
  unfold decA at hd
  split at hd
  ·cases hd
  ·rename_i hf
   have hf:=Classical.not_not.1 hf
   split at hd
   ·cases hd
   ·split at hd
    ·cases hd
    ·rename_i hv
     have hv:vl S l=0:=by omega
     obtain ⟨ho,hop⟩:=Trail.freeA_open (vl_free (fl_wi hf.1 hf.2) hv)
     exact St.decide h.st ho hop
 ·exact h
end Go.Proofs.YtmhjehodfggleaaGreat.Eng

/- An Engine in plain: what holds of it stays through New, Learn, Restart and Forget; the model in memory. -/

set_option linter.unusedVariables false
set_option linter.unusedSimpArgs false
set_option linter.unusedSectionVars false
set_option maxRecDepth 100000
namespace Go.Proofs.YtmhjehodfggleaaGreat.Eng
open Go Go.Proofs.YtmhjehodfggleaaGreat.Vc Go.Proofs.YtmhjehodfggleaaGreat.T
open Go.Proofs.YtmhjehodfggleaaGreat.Apart (RdL own_rdl wrap_nat getE own_len take_snoc Sl sv New LL)
open Go.Proofs.YtmhjehodfggleaaGreat.Lits (fl fl_iff Ans ans_of formedP idx idx_range idx_inj indexP Td Srt)
open Go.Proofs.YtmhjehodfggleaaGreat.Arn (Ar AR words off cw Got)
open Go.Proofs.YtmhjehodfggleaaGreat.Trail (TI Tr St valA levA reaA ownB Moved TLaid above upto freeA implA Open ent)
open Go.Proofs.YtmhjehodfggleaaGreat.Learn (En RdE LSpec Askd shr Learnt Shrunk)
theorem addC_row (S:ES) (c:List Int):(addC S c).R=S.R∧(addC S c).L=S.L∧(addC S c).learnts=S.learnts∧(addC S c).log=S.log∧(addC S c).head=S.head∧(addC S c).rest=S.rest∧(addC S c).clash=S.clash∧(addC S c).dead=S.dead:=by
 unfold addC
 split
 ·exact ⟨rfl,rfl,rfl,rfl,rfl,rfl,rfl,rfl⟩
 ·split<;>exact ⟨rfl,rfl,rfl,rfl,rfl,rfl,rfl,rfl⟩
theorem newE_ni {nv:Nat} (hnv:nv≤1048576) {css:List (List Int)} (hn:css.length≤1048576) (hl:∀es∈css,es.length≤1048576) (hw:∀es∈css,∀x∈es,Wi nv x) :
  NI (newE nv css) css.length∧(newE nv css).nv=nv∧(newE nv css).R=[]∧(newE nv css).L=[]∧(newE nv css).learnts=[]∧(newE nv css).log=[]∧(newE nv css).head=0∧(newE nv css).rest=false∧(newE nv css).clash=false∧(newE nv css).dead=false:=by
 have key:∀i,i≤css.length→NI ((css.take i).foldl addC (E0 nv)) i∧((css.take i).foldl addC (E0 nv)).nv=nv∧((css.take i).foldl addC (E0 nv)).R=[]∧((css.take i).foldl addC (E0 nv)).L=[]∧((css.take i).foldl addC (E0 nv)).learnts=[]∧((css.take i).foldl addC (E0 nv)).log=[]∧((css.take i).foldl addC (E0 nv)).head=0∧((css.take i).foldl addC (E0 nv)).rest=false∧((css.take i).foldl addC (E0 nv)).clash=false∧((css.take i).foldl addC (E0 nv)).dead=false:=fun i=>by
  induction i with
  | zero=>exact fun _=>⟨ni0 hnv,rfl,rfl,rfl,rfl,rfl,rfl,rfl,rfl,rfl⟩
  | succ i ih=>
   intro hi
   obtain ⟨h1,h2,h3,h4,h5,h6,h7,h8,h9,h10⟩:=ih (by omega)
   obtain ⟨es,hes⟩:=getE (show i<css.length by omega)
   have hem:=List.mem_of_getElem? hes
   rw [take_snocN hes,List.foldl_append]
   obtain ⟨r1,r2,r3,r4,r5,r6,r7,r8⟩:=addC_row ((css.take i).foldl addC (E0 nv)) es
   obtain ⟨_,r0,_,_⟩:=addC_ar ((css.take i).foldl addC (E0 nv)) es
   exact ⟨h1.step (by rw [h2]; exact hw es hem) (hl es hem) (by omega),r0.trans h2,r1.trans h3,r2.trans h4,r3.trans h5,r4.trans h6,r5.trans h7,r6.trans h8,r7.trans h9,r8.trans h10⟩
 have:=key css.length (Nat.le_refl _)
 rw [List.take_length] at this
 exact this
theorem newE_wf {nv:Nat} (hnv:nv≤1048576) {css:List (List Int)} (hn:css.length≤1048576) (hl:∀es∈css,es.length≤1048576) (hw:∀es∈css,∀x∈es,Wi nv x):WF (newE nv css):=by
 obtain ⟨h1,h2,h3,h4,_⟩:=newE_ni hnv hn hl hw
 refine ⟨h1.wf,?_⟩
 unfold StE
 rw [h3,h4]
 exact .nil
theorem st_upto {n:Nat} {R:List E} {L:List Int} (h:St n R L) {k:Int} (hk0:0≤k) (hk:k≤L.length):St n (upto k R) (L.take k.toNat):=by
 obtain ⟨m,rfl⟩:∃m:Nat,k=m:=⟨k.toNat,by omega⟩
 rw [Int.toNat_natCast]
 by_cases hm:m<L.length
 ·obtain ⟨fr,e1,e2,s1,s2,s3⟩:=h.back m _ (List.getElem?_eq_getElem hm)
  obtain ⟨a1,a2⟩:=Trail.above_drop s2 s3
  rw [a2]; exact s1
 ·obtain rfl:m=L.length:=by omega
  obtain ⟨a1,a2⟩:=Trail.above_top h (Int.le_refl _)
  rw [a2,List.take_length]; exact h
theorem WF.cut {S:ES} (h:WF S) {k:Int} (hk0:0≤k) (hk:k≤S.L.length):WF (cutS S k):=
 ⟨⟨⟨h.nv,h.hl,h.cl,h.ll,h.nd,h.w1⟩,h.sh,h.le,h.shl,h.lel⟩,st_upto h.st hk0 hk⟩
theorem WF.self {S:ES} (h:WF S) (hd:Nat) (r c d:Bool) (x:Int):WF {S with head:=hd,rest:=r,clash:=c,dead:=d,bad:=x}:=
 ⟨⟨⟨h.nv,h.hl,h.cl,h.ll,h.nd,h.w1⟩,h.sh,h.le,h.shl,h.lel⟩,h.st⟩
theorem WF.note {S:ES} (h:WF S) (dr:Bool) (cs:List Int):WF (noteS S dr cs):=⟨⟨⟨h.nv,h.hl,h.cl,h.ll,h.nd,h.w1⟩,h.sh,h.le,h.shl,h.lel⟩,h.st⟩
theorem WF.learn {S:ES} (h:WF S) {back:Int} {s:List Int} (hcl:S.H.length+1≤8796093022208) (hle:S.learnts.length+1≤8796093022208) (hne:s≠[]) (hw:∀x∈s,Wi S.nv x) (hnd:s.Nodup) (hsl:s.length≤2097153) (hb0:0≤back) (hbl:back≤S.L.length) (hf:freeA S.nv (upto back S.R) (s.headD 0)=0):WF (learnT S back s):=by
 have hat:0≤atN S:=by unfold atN; omega
 have hN:(∀x∈(newHd S s).ls,Wi S.nv x)∧(newHd S s).ls.Nodup∧(newHd S s).ls.length≤2097153∧0≤(newHd S s).at_:=⟨hw,hnd,hsl,hat⟩
 have h1:WfS (putAr (noteS {S with clash:=false} false s) s):=⟨⟨h.nv,h.hl,h.cl,h.ll,h.nd,h.w1⟩,h.sh,h.le,h.shl,h.lel⟩
 have h2:=WfS.snocH (S:=putAr (noteS {S with clash:=false} false s) s) (d:=newHd S s) h1 hN hcl
 have hlen:(S.H++[newHd S s]).length=S.H.length+1:=by rw [List.length_append]; rfl
 have h3:WfS (heldS S s):=⟨⟨h2.nv,h2.hl,h2.cl,h2.ll,h2.nd,h2.w1⟩,h2.sh,fun j hj=>by
  rcases List.mem_append.1 hj with hj | hj
  ·exact h2.le j hj
  ·rw [List.mem_singleton.1 hj]; show S.H.length<(S.H++[newHd S s]).length; omega,h2.shl,by show (S.learnts++[S.H.length]).length≤_; rw [List.length_append]; exact hle⟩
 have h4:WfS (eyesS S s):=by
  unfold eyesS
  split
  ·rename_i hl
   have hxs:∃x y zs,s=x :: y :: zs:=by
    cases s with
    | nil=>exact absurd rfl hne
    | cons x xs=>cases xs with
     | nil=>simp at hl
     | cons y zs=>exact ⟨x,y,zs,rfl⟩
   obtain ⟨x,y,zs,rfl⟩:=hxs
   have hm:maxL S (y :: zs)∈y :: zs:=maxL_mem S (by simp)
   refine h3.watch (k:=S.H.length) (d:=newHd S (x :: y :: zs)) (by show (S.H++[_])[S.H.length]?=_; rw [List.getElem?_append_right (Nat.le_refl _),Nat.sub_self]; rfl) (fun i ids hi hk=>by have:=h.lt1 hi hk; omega) (by show x∈_; simp [newHd]) (List.mem_cons_of_mem _ hm) ?_
   show x≠maxL S (y :: zs)
   rw [List.nodup_cons] at hnd
   intro e
   exact hnd.1 (by rw [e]; exact hm)
  ·exact h3
 have q:(eyesS S s).R=S.R∧(eyesS S s).L=S.L∧(eyesS S s).nv=S.nv:=by
  unfold eyesS; split<;>exact ⟨rfl,rfl,rfl⟩
 have h5:WF (eyesS S s):=⟨h4,by unfold StE; rw [q.1,q.2.1,q.2.2]; exact h.st⟩
 have h6:=h5.cut hb0 (by rw [q.2.1]; exact hbl)
 obtain ⟨ho,hop⟩:=Trail.freeA_open hf
 refine ⟨⟨⟨h6.nv,h6.hl,h6.cl,h6.ll,h6.nd,h6.w1⟩,h6.sh,h6.le,h6.shl,h6.lel⟩,?_⟩
 have ho':ownB (cutS (eyesS S s) back).nv (s.headD 0)=true:=by show ownB (eyesS S s).nv _=true; rw [q.2.2]; exact ho
 have hop':Trail.Open (cutS (eyesS S s) back).R (s.headD 0):=by show Trail.Open (upto back (eyesS S s).R) _; rw [q.1]; exact hop
 exact St.imply h6.st ho' hop' hat
theorem WF.forget {S:ES} (h:WF S) (i:Int):WF (forget S i).2:=by
 unfold Eng.forget
 split
 ·exact h
 ·split
  ·exact h
  ·split
   ·exact h
   ·rename_i k hk
    split
    ·exact h
    ·rename_i d hd
     split
     ·exact h
     ·have hkl:=(List.getElem?_eq_some_iff.1 hd).1
      have hH:∀(j:Nat),(S.H.set k {d with gone:=true})[j]?=if k=j then some {d with gone:=true} else S.H[j]?:=fun j=>by
       rw [List.getElem?_set]
       by_cases hkj:k=j
       ·rw [if_pos hkj,if_pos hkl,if_pos hkj]
       ·rw [if_neg hkj,if_neg hkj]
      refine ⟨⟨⟨h.nv,fun j d' hj=>?_,by show (S.H.set k _).length≤_; rw [List.length_set]; exact h.cl,h.ll,h.nd,fun a j ids ha hj=>?_⟩,fun j hj=>by show j<(S.H.set k _).length; rw [List.length_set]; exact h.sh j hj,fun j hj=>by show j<(S.H.set k _).length; rw [List.length_set]; exact h.le j (List.mem_of_mem_eraseIdx hj),h.shl,?_⟩,h.st⟩
      ·have hj':(S.H.set k {d with gone:=true})[j]?=some d':=hj
       rw [hH] at hj'
       split at hj'
       ·injection hj' with hj'; rw [←hj']; exact h.hl k d hd
       ·exact h.hl j d' hj'
      ·obtain ⟨d1,hd1,r⟩:=h.w1 a j ids ha hj
       show ∃d2,(S.H.set k {d with gone:=true})[j]?=some d2∧d2.e0∈d2.ls∧d2.e1∈d2.ls∧d2.e0≠d2.e1∧(a=idxN d2.e0∨a=idxN d2.e1)
       rw [hH]
       by_cases hkj:k=j
       ·subst hkj
        rw [hd] at hd1; injection hd1 with hd1; subst hd1
        exact ⟨_,if_pos rfl,r⟩
       ·exact ⟨d1,by rw [if_neg hkj]; exact hd1,r⟩
      ·show (S.learnts.eraseIdx _).length≤_
       have h1:(S.learnts.eraseIdx i.toNat).length≤S.learnts.length:=(List.eraseIdx_sublist _ _).length_le
       exact Nat.le_trans h1 h.lel
end Go.Proofs.YtmhjehodfggleaaGreat.Eng

/- An Engine in memory: its model. -/

set_option linter.unusedVariables false
set_option linter.unusedSimpArgs false
set_option linter.unusedSectionVars false
set_option maxRecDepth 100000
namespace Go.Proofs.YtmhjehodfggleaaGreat.Eng
open Go Go.Proofs.YtmhjehodfggleaaGreat.Vc Go.Proofs.YtmhjehodfggleaaGreat.T
open Go.Proofs.YtmhjehodfggleaaGreat.Apart (RdL own_rdl wrap_nat getE own_len take_snoc Sl sv New LL)
open Go.Proofs.YtmhjehodfggleaaGreat.Lits (fl fl_iff Ans ans_of formedP idx idx_range idx_inj indexP Td Srt)
def modB (S:ES) (i:Nat):Bool:=decide (0<vl S ((i:Int)+1))
theorem modelS_eq (S:ES):modelS S=if S.rest=false∨S.R.length<S.nv then none else some ((List.range S.nv).map (modB S)):=rfl
theorem model19 {ex:Nat→Prop} {w:World} {b:Nat} {o:Nat→Int} {h:Hs} {S:ES} (hR:Rp ex w b o h S) :
  Calls Tryz.prog 24 #[Pt b] w fun e w'=>(modelS S=none∧e=.returned (.tuple #[.slice none 0 0,.bool false])∧Keep None w w')∨
   ∃m p c,modelS S=some m∧m.length=S.nv∧e=.returned (.tuple #[.slice p S.nv c,.bool true])∧Own w' 4 1 p S.nv c (m.map Value.bool)∧(∀i,ob p i→w.heap.size≤i)∧Keep None w w':=by
 refine (V24_calls (some ⟨b,0,none⟩) w (fun v w'=>(modelS S=none∧v=.tuple #[.slice none 0 0,.bool false]∧Keep None w w')∨
   ∃m p c,modelS S=some m∧m.length=S.nv∧v=.tuple #[.slice p S.nv c,.bool true]∧Own w' 4 1 p S.nv c (m.map Value.bool)∧(∀i,ob p i→w.heap.size≤i)∧Keep None w w') ?_).mono fun e w' ⟨v,he,hk⟩=>?_
 rotate_left
 ·rcases hk with ⟨a,hv,k⟩ | ⟨m,p,c,a,a2,hv,k⟩
  ·exact Or.inl ⟨a,by rw [he,hv],k⟩
  ·exact Or.inr ⟨m,p,c,a,a2,by rw [he,hv],k⟩
 unfold V24
 have kd:Keep None w w.drew:=(Keep.refl _ _).drew
 have hRd:=hR.keep0 kd
 have hnv:=hR.nv
 have hool:=own_len hR.oo
 rw [List.length_map] at hool
 have zd:w.drew.heap.size=w.heap.size:=rfl
 refine nn_of (ldB_of (x:=S.rest) (by rw [add_mk]; exact hRd.self.cell 9) ?_)
 cases hr:S.rest with
 | false=>
  exact gd_f rfl (gd_f rfl (gd_f rfl (gd_f rfl (pif_t rfl (Or.inl ⟨by rw [modelS_eq,if_pos (Or.inl hr)],rfl,kd⟩)))))
 | true=>
  refine gd_t rfl (nn_of (gd_t rfl (ldC_of (x:=h.oo.1) (n:=h.oo.2.1) (c:=h.oo.2.2) (by rw [add_mk]; exact hRd.self.cell 3) (gd_t rfl (nn_of (gd_t rfl (ldI_of (x:=S.nv) (by rw [add_mk]; exact hRd.self.cell 0) ?_)))))))
  by_cases hlt:S.R.length<S.nv
  ·refine pif_t (by show cond false true (decide ((h.oo.2.1:Int)<(S.nv:Int)))=true; rw [decide_eq_true (by omega)]; rfl) (Or.inl ⟨by rw [modelS_eq,if_pos (Or.inr hlt)],rfl,kd⟩)
  refine pif_f (by show cond false true (decide ((h.oo.2.1:Int)<(S.nv:Int)))=false; rw [decide_eq_false (by omega)]; rfl) ?_
  have em:modelS S=some ((List.range S.nv).map (modB S)):=by rw [modelS_eq,if_neg (by rw [hr]; intro hh; rcases hh with hh | hh; cases hh; omega)]
  refine nn_of (ldI_of (x:=S.nv) (by rw [add_mk]; exact hRd.self.cell 0) ?_)
  refine Lits.mk2_of (B:=1) (z:=.bool false) Tryz.underlying65 (by kernel_rfl) rfl (by omega) (by omega) (by omega) (by omega) fun mb w1 hmb hBm k1=>?_
  rw [Int.toNat_natCast] at hBm ⊢
  have z1:=k1.size
  have hO0:Own w1 4 1 (some ⟨mb,0,none⟩) S.nv S.nv (((List.range 0).map fun i=>Value.bool (modB S i))++List.replicate (S.nv - 0) (.bool false)):=Or.inr ⟨mb,_,rfl,hBm,Nat.le_refl _,by simp only [maxLen]; omega,by simp,by
   rw [Nat.mul_one,List.take_of_length_le (by simp)]; simp⟩
  refine lp_of (fun s W=>∃i:Nat,s.1=(i:Int)∧i≤S.nv∧Own W 4 1 (some ⟨mb,0,none⟩) S.nv S.nv (((List.range i).map fun i=>Value.bool (modB S i))++List.replicate (S.nv - i) (.bool false))∧Keep None w W) (fun s _=>(S.nv - s.1).toNat) ⟨0,rfl,Nat.zero_le _,hO0,kd.then0 k1⟩ ?_
  rintro ⟨i',⟨⟩⟩ W ⟨i,rfl,hi,hO,kW⟩
  dsimp only
  refine pif_of (fun hq=>?_) fun hq=>?_
  ·have hq:i<S.nv:=by simpa using hq
   rw [wrap_nat i (by omega)]
   have hRW:=hR.keep0 kW
   refine hRW.trAt (hRW.val (by omega) fun w3 k3=>⟨_,rfl,?_⟩)
   have hO3:=hO.keep0 k3
   refine hO3.ix (by omega) (by omega) fun bq hbq=>?_
   cases hbq
   rw [Int.toNat_natCast,Nat.mul_one,add_mk,Nat.add_zero]
   refine hO3.st (by omega) rfl fun w4 hO4 k4 z4=>⟨⟨i+1,rfl,hq,?_,?_⟩,by omega⟩
   ·have e1:((i+1:Nat):Int)=(i:Int)+1:=by omega
    rw [e1] at hO4
    have e2:((((List.range i).map fun i=>Value.bool (modB S i))++List.replicate (S.nv - i) (Value.bool false)).set i (Value.bool (decide (vl S ((i:Int)+1)>0))))=((List.range (i+1)).map fun i=>Value.bool (modB S i))++List.replicate (S.nv - (i+1)) (Value.bool false):=by
     rw [List.set_append_right _ _ (by simp),List.length_map,List.length_range,Nat.sub_self,List.range_succ,List.map_append,List.append_assoc]
     congr 1
     rw [show S.nv - i=(S.nv - (i+1))+1 by omega,List.replicate_succ]
     rfl
    rw [e2] at hO4
    exact hO4
   ·exact (kW.then0 k3).trans k4 fun j hj hh=>by
     have:j=mb:=hh
     omega
  ·have hq:i=S.nv:=by
    have:¬i<S.nv:=by simpa using hq
    omega
   subst hq
   rw [Nat.sub_self,List.replicate_zero,List.append_nil] at hO
   refine Or.inr ⟨(List.range S.nv).map (modB S),_,_,em,by simp,rfl,by rw [List.map_map]; exact hO,fun i ⟨a,ha,hb⟩=>by cases ha; have:mb=i:=hb; omega,kW⟩
end Go.Proofs.YtmhjehodfggleaaGreat.Eng

/- An Engine in plain: how a literal stands, by the trail's entries; clauses false but for one. -/

set_option linter.unusedVariables false
set_option linter.unusedSimpArgs false
set_option linter.unusedSectionVars false
set_option maxRecDepth 100000
namespace Go.Proofs.YtmhjehodfggleaaGreat.Eng
open Go Go.Proofs.YtmhjehodfggleaaGreat.Vc Go.Proofs.YtmhjehodfggleaaGreat.T
open Go.Proofs.YtmhjehodfggleaaGreat.Trail (TI Tr St valA levA reaA ownB Moved TLaid above upto freeA implA ent)
theorem vl_pos {S:ES} {x:Int} (h:vl S x=1):∃e∈S.R,e.lit=x:=by
 unfold vl valA at h
 split at h
 ·split at h
  ·rename_i e he
   split at h
   ·rename_i hx; exact ⟨e,(Trail.ent_some he).2,hx⟩
   ·cases h
  ·cases h
 ·cases h
theorem vl_neg {S:ES} {x:Int} (h:vl S x=-1):∃e∈S.R,e.lit=-x:=by
 unfold vl valA at h
 split at h
 ·split at h
  ·rename_i e he
   split at h
   ·cases h
   ·rename_i hx
    have:=Trail.ent_some he
    exact ⟨e,this.2,by have:=this.1; omega⟩
  ·cases h
 ·cases h
theorem vl_mem {S:ES} (hs:StE S) {e:E} (he:e∈S.R):vl S e.lit=1∧vl S (-e.lit)=-1:=by
 have ho:=hs.own e he
 have hw:=own_wi ho
 have hn:=ent_mem hs he
 refine ⟨?_,?_⟩
 ·unfold vl valA
  rw [if_pos ho,hn]
  exact if_pos rfl
 ·unfold vl valA
  rw [if_pos (wi_own (wi_neg hw)),Int.natAbs_neg,hn]
  exact if_neg (by have:=hw.1; omega)
def Unit1 (S:ES) (d:Hd) (l:Int):Prop:=l∈d.ls∧∀x∈d.ls,x≠l→∃e∈S.R,e.lit=-x
theorem goal_none {S:ES} {d:Hd} {l:Int} (h:goal S d l=none) (h0:¬0<vl S (other d l)) {x:Int} (hx:x∈d.ls) (h1:x≠other d l) (h2:x≠l):vl S x=-1:=by
 unfold goal at h
 rw [if_neg h0,List.find?_eq_none] at h
 have:=h x hx
 simp only [Bool.and_eq_true,decide_eq_true_eq,not_and] at this
 have:=this h1 h2
 rcases vl_cases S x with e | e | e<;>omega
theorem unit_of {S:ES} {d:Hd} {l:Int} (hg:goal S d l=none) (h0:vl S (other d l)=0) (ho:other d l∈d.ls) (hl:∃e∈S.R,e.lit=-l):Unit1 S d (other d l):=
 ⟨ho,fun x hx hne=>by
  by_cases hxl:x=l
  ·rw [hxl]; exact hl
  ·exact vl_neg (goal_none hg (by omega) hx hne hxl)⟩
theorem false_of {S:ES} {d:Hd} {l:Int} (hg:goal S d l=none) (h0:vl S (other d l)<0) (hl:∃e∈S.R,e.lit=-l):∀x∈d.ls,∃e∈S.R,e.lit=-x:=fun x hx=>by
 by_cases hxl:x=l
 ·rw [hxl]; exact hl
 ·by_cases hxo:x=other d l
  ·rw [hxo]; exact vl_neg (by rcases vl_cases S (other d l) with e | e | e<;>omega)
  ·exact vl_neg (goal_none hg (by omega) hx hxo hxl)
end Go.Proofs.YtmhjehodfggleaaGreat.Eng

/- An Engine in plain: each entry's reason is a clause that is false but for it ahead of it. -/

set_option linter.unusedVariables false
set_option linter.unusedSimpArgs false
set_option linter.unusedSectionVars false
set_option maxRecDepth 100000
namespace Go.Proofs.YtmhjehodfggleaaGreat.Eng
open Go Go.Proofs.YtmhjehodfggleaaGreat.Vc Go.Proofs.YtmhjehodfggleaaGreat.T
open Go.Proofs.YtmhjehodfggleaaGreat.Trail (TI Tr St valA levA reaA ownB Moved TLaid above upto freeA implA ent)
structure Rs (S:ES):Prop where
 rsn:∀(i:Nat) (e:E),S.R[i]?=some e→0≤e.rs→∃(k:Nat) (d:Hd),S.H[k]?=some d∧d.at_=e.rs∧e.lit∈d.ls∧∀x∈d.ls,x≠e.lit→∃(j:Nat) (f:E),j<i∧S.R[j]?=some f∧f.lit=-x
theorem Rs.put {S:ES} (h:Rs S) {k:Nat} {d:Hd} {l:Int} (hd:S.H[k]?=some d) (hu:Unit1 S d l):Rs (putS S l d.at_):=by
 refine ⟨fun i e he h0=>?_⟩
 rcases snoc_get he with ⟨hi,h1⟩ | ⟨hi,rfl⟩
 ·obtain ⟨k',d',a,b,c,g⟩:=h.rsn i e h1 h0
  refine ⟨k',d',a,b,c,fun x hx hne=>?_⟩
  obtain ⟨j,f,hj,hf,hl⟩:=g x hx hne
  exact ⟨j,f,hj,by show (S.R++[_])[j]?=some f; rw [List.getElem?_append_left (by omega)]; exact hf,hl⟩
 ·refine ⟨k,d,hd,rfl,hu.1,fun x hx hne=>?_⟩
  obtain ⟨f,hf,hl⟩:=hu.2 x hx hne
  obtain ⟨j,hj,rfl⟩:=List.getElem_of_mem hf
  exact ⟨j,_,by omega,by show (S.R++[_])[j]?=_; rw [List.getElem?_append_left hj]; exact List.getElem?_eq_getElem hj,hl⟩
theorem Rs.to {S S':ES} (h:Rs S) (hR:S'.R=S.R) (hH:∀(k:Nat) (d:Hd),S.H[k]?=some d→∃d',S'.H[k]?=some d'∧d'.ls=d.ls∧d'.at_=d.at_):Rs S':=by
 refine ⟨fun i e he h0=>?_⟩
 rw [hR] at he ⊢
 obtain ⟨k,d,a,b,c,g⟩:=h.rsn i e he h0
 obtain ⟨d',h1,h2,h3⟩:=hH k d a
 exact ⟨k,d',h1,h3.trans b,by rw [h2]; exact c,by rw [h2]; exact g⟩
theorem Rs.move {S:ES} (h:Rs S) {k:Nat} {d:Hd} (hd:S.H[k]?=some d) (l x:Int):Rs (moveS S k d l x):=by
 refine h.to rfl fun j d1 hj=>?_
 show ∃d',(S.H.set k {d with e0:=other d l,e1:=x})[j]?=some d'∧_
 rw [List.getElem?_set]
 by_cases hkj:k=j
 ·subst hkj
  rw [hd] at hj; injection hj with hj; subst hj
  rw [if_pos rfl,if_pos (List.getElem?_eq_some_iff.1 hd).1]
  exact ⟨_,rfl,rfl,rfl⟩
 ·rw [if_neg hkj]; exact ⟨d1,hj,rfl,rfl⟩
theorem Rs.vstep {l:Int} {S:ES} {k:Nat} {todo stay:List Nat} {ok:Bool} (h:VI l S (k :: todo) stay) (hr:Rs S) (hl:∃e∈S.R,e.lit=-l):Rs (vstep l (S,stay,ok) k).1∧∃e∈(Eng.vstep l (S,stay,ok) k).1.R,e.lit=-l:=by
 obtain ⟨d,hd,h0,h1,hne,hw⟩:=h.td k (by simp)
 have ho:other d l∈d.ls:=by
  obtain ⟨o1,_⟩:=other_of hw hne
  rcases o1 with o1 | o1<;>rw [o1]
  ·exact h0
  ·exact h1
 unfold Eng.vstep
 dsimp only
 rw [hd]
 dsimp only
 split
 ·exact ⟨hr,hl⟩
 ·split
  ·exact ⟨hr,hl⟩
  ·split
   ·exact ⟨hr.move hd _ _,hl⟩
   ·rename_i hg
    split
    ·exact ⟨hr.to rfl fun k d hk=>⟨d,hk,rfl,rfl⟩,hl⟩
    ·split
     ·rename_i he
      refine ⟨hr.put hd (unit_of hg he ho hl),?_⟩
      obtain ⟨e,he,hel⟩:=hl
      exact ⟨e,List.mem_append_left _ he,hel⟩
     ·exact ⟨hr,hl⟩
theorem Rs.fold {l:Int} : ∀(todo:List Nat) (S:ES) (stay:List Nat) (ok:Bool),VI l S todo stay→Rs S→(∃e∈S.R,e.lit=-l)→Rs (todo.foldl (Eng.vstep l) (S,stay,ok)).1
 | [],S,stay,ok,h,hr,_=>hr
 | k :: todo,S,stay,ok,h,hr,hl=>by
  obtain ⟨a,b⟩:=Rs.vstep (ok:=ok) h hr hl
  exact Rs.fold todo _ _ (Eng.vstep l (S,stay,ok) k).2.2 h.step a b
theorem Rs.visit {S:ES} (h:WfE S) (hr:Rs S) {l:Int} (hl:Wi S.nv l) (he:∃e∈S.R,e.lit=-l):Rs (visit S l).1:=
 (Rs.fold (listAt S (idxN l)) {S with lists:=S.lists.set (idxN l) []} [] true (VI.start h hl) (hr.to rfl fun k d hk=>⟨d,hk,rfl,rfl⟩) he).to rfl fun k d hk=>⟨d,hk,rfl,rfl⟩
end Go.Proofs.YtmhjehodfggleaaGreat.Eng

/- An Engine in plain: reasons kept through single clauses, a spread, a decision, a way back. -/

set_option linter.unusedVariables false
set_option linter.unusedSimpArgs false
set_option linter.unusedSectionVars false
set_option maxRecDepth 100000
namespace Go.Proofs.YtmhjehodfggleaaGreat.Eng
open Go Go.Proofs.YtmhjehodfggleaaGreat.Vc Go.Proofs.YtmhjehodfggleaaGreat.T
open Go.Proofs.YtmhjehodfggleaaGreat.Trail (TI Tr St valA levA reaA ownB Moved TLaid above upto freeA implA ent)
theorem Rs.single {S:ES} (h:Rs S) {k:Nat} {d:Hd} (hd:S.H[k]?=some d) (hs:d.ls.length<2):Rs (single S d).1:=by
 unfold Eng.single
 split
 ·rename_i l hf
  have hl:=List.mem_of_find?_eq_some hf
  split
  ·exact h
  ·refine h.put hd ⟨hl,fun x hx hne=>absurd ?_ hne⟩
   match hls:d.ls with
   | []=>rw [hls] at hx; cases hx
   | [y]=>
    rw [hls] at hx hl
    exact (List.mem_singleton.1 hx).trans (List.mem_singleton.1 hl).symm
   | y :: z :: zs=>rw [hls] at hs; simp only [List.length_cons] at hs; omega
 ·exact h.to rfl fun k d hk=>⟨d,hk,rfl,rfl⟩
def Sh1 (S:ES):Prop:=∀k∈S.short,∀d,S.H[k]?=some d→d.ls.length<2
theorem Sh1.fr {S S':ES} (h:Sh1 S) (hf:Fr S S'):Sh1 S':=fun k hk d hd=>by
 rw [hf.short] at hk
 obtain ⟨d0,h0,e,_⟩:=hf.hls k d hd
 rw [e]; exact h k hk d0 h0
theorem Rs.sfold:∀(ids:List Nat) (acc:ES×Bool),Rs acc.1→(∀k∈ids,∀d,acc.1.H[k]?=some d→d.ls.length<2)→Rs (ids.foldl sstep acc).1
 | [],acc,h,_=>h
 | k :: ids,acc,h,hs=>by
  have hf:=fr_sstep acc k
  refine Rs.sfold ids (sstep acc k) ?_ fun j hj d hd=>?_
  ·unfold sstep
   split
   ·exact h
   ·split
    ·exact h
    ·rename_i d hd
     exact h.single hd (hs k (by simp) d hd)
  ·obtain ⟨d0,h0,e,_⟩:=hf.hls j d hd
   rw [e]; exact hs j (List.mem_cons_of_mem _ hj) d0 h0
theorem Rs.spreadN:∀(n:Nat) (S:ES),WfE S→StE S→Rs S→Rs (spreadN n S).1
 | 0,S,hw,hs,h=>h
 | n+1,S,hw,hs,h=>by
  unfold Eng.spreadN
  cases he:S.R[S.head]? with
  | none=>exact h
  | some e=>
   dsimp only
   have hem:=List.mem_of_getElem? he
   have hwi:Wi S.nv e.lit:=own_wi (hs.own e hem)
   have hw':=hw.self (S.head+1) S.rest S.clash S.dead S.bad
   have v1:=hw'.visit (l:=-e.lit) (wi_neg hwi)
   have v2:=st_visit (S:={S with head:=S.head+1}) hw' hs (l:=-e.lit) (wi_neg hwi)
   have h':Rs {S with head:=S.head+1}:=h.to rfl fun k d hk=>⟨d,hk,rfl,rfl⟩
   have v3:=Rs.visit (S:={S with head:=S.head+1}) hw' h' (l:=-e.lit) (wi_neg hwi) ⟨e,hem,by omega⟩
   split
   ·exact Rs.spreadN n _ v1 v2 v3
   ·exact v3
theorem Rs.spread {S:ES} (hw:WF S) (hs:Sh1 S) (h:Rs S):Rs (spread S).1:=by
 unfold Eng.spread
 split
 ·exact h
 dsimp only
 have hsh:WfE (shorts S).1∧StE (shorts S).1∧Rs (shorts S).1:=by
  unfold shorts
  split
  ·have:=sfold_inv S.short (S,true) hw.toWfE hw.st
   exact ⟨this.1,this.2,Rs.sfold S.short (S,true) h hs⟩
  ·exact ⟨hw.toWfE,hw.st,h⟩
 obtain ⟨a,b,c⟩:=hsh
 split
 ·exact (Rs.spreadN S.nv (shorts S).1 a b c).to rfl fun k d hk=>⟨d,hk,rfl,rfl⟩
 ·exact c.to rfl fun k d hk=>⟨d,hk,rfl,rfl⟩
theorem Rs.dec {S:ES} (h:Rs S) (l:Int):Rs (decS S l):=by
 unfold decS
 split
 ·refine ⟨fun i e he h0=>?_⟩
  rcases snoc_get he with ⟨hi,h1⟩ | ⟨hi,rfl⟩
  ·obtain ⟨k',d',a,b,c,g⟩:=h.rsn i e h1 h0
   refine ⟨k',d',a,b,c,fun x hx hne=>?_⟩
   obtain ⟨j,f,hj,hf,hl⟩:=g x hx hne
   exact ⟨j,f,hj,by show (S.R++[_])[j]?=some f; rw [List.getElem?_append_left (by omega)]; exact hf,hl⟩
  ·exact absurd h0 (show ¬(0:Int)≤-1 by decide)
 ·exact h
theorem Rs.cut {S:ES} (hs:StE S) (h:Rs S) {k:Int} (hk0:0≤k) (hk:k≤S.L.length):Rs (cutS S k):=by
 obtain ⟨u1,u2⟩:=upto_take hs hk0 hk
 refine ⟨fun i e he h0=>?_⟩
 have he':(upto k S.R)[i]?=some e:=he
 rw [u1,List.getElem?_take] at he'
 split at he'
 ·rename_i hi
  obtain ⟨k',d',a,b,c,g⟩:=h.rsn i e he' h0
  refine ⟨k',d',a,b,c,fun x hx hne=>?_⟩
  obtain ⟨j,f,hj,hf,hl⟩:=g x hx hne
  refine ⟨j,f,hj,?_,hl⟩
  show (upto k S.R)[j]?=some f
  rw [u1,List.getElem?_take,if_pos (by omega)]
  exact hf
 ·cases he'
end Go.Proofs.YtmhjehodfggleaaGreat.Eng

/- An Engine in plain: reasons kept through Learn and Forget; they begin so. -/

set_option linter.unusedVariables false
set_option linter.unusedSimpArgs false
set_option linter.unusedSectionVars false
set_option maxRecDepth 100000
namespace Go.Proofs.YtmhjehodfggleaaGreat.Eng
open Go Go.Proofs.YtmhjehodfggleaaGreat.Vc Go.Proofs.YtmhjehodfggleaaGreat.T
open Go.Proofs.YtmhjehodfggleaaGreat.Trail (TI Tr St valA levA reaA ownB Moved TLaid above upto freeA implA ent)
theorem rs_nil {S:ES} (h:S.R=[]):Rs S:=⟨fun i e he=>by rw [h] at he; simp at he⟩
theorem eyes_H (S:ES) (s:List Int):(∀(k:Nat) (d:Hd),S.H[k]?=some d→∃d',(eyesS S s).H[k]?=some d'∧d'.ls=d.ls∧d'.at_=d.at_)∧(∃d',(eyesS S s).H[S.H.length]?=some d'∧d'.ls=s∧d'.at_=atN S)∧(eyesS S s).R=S.R∧(eyesS S s).L=S.L∧(eyesS S s).nv=S.nv:=by
 have h1:∀(k:Nat) (d:Hd),S.H[k]?=some d→(S.H++[newHd S s])[k]?=some d:=fun k d hk=>by
  rw [List.getElem?_append_left (List.getElem?_eq_some_iff.1 hk).1]; exact hk
 have h2:(S.H++[newHd S s])[S.H.length]?=some (newHd S s):=by rw [List.getElem?_append_right (Nat.le_refl _),Nat.sub_self]; rfl
 have hl:S.H.length<(S.H++[newHd S s]).length:=by rw [List.length_append]; simp
 unfold eyesS
 split
 ·refine ⟨fun k d hk=>⟨d,?_,rfl,rfl⟩,⟨_,List.getElem?_set_self hl,rfl,rfl⟩,rfl,rfl,rfl⟩
  show ((S.H++[newHd S s]).set S.H.length _)[k]?=some d
  have:=(List.getElem?_eq_some_iff.1 hk).1
  rw [List.getElem?_set_ne (by omega)]
  exact h1 k d hk
 ·exact ⟨fun k d hk=>⟨d,h1 k d hk,rfl,rfl⟩,⟨_,h2,rfl,rfl⟩,rfl,rfl,rfl⟩
theorem Rs.learn {S:ES} (hs:StE S) (h:Rs S) {back:Int} {s:List Int} (hb0:0≤back) (hbl:back≤S.L.length) (hne:s≠[]) (hu:∀x∈s,x≠s.headD 0→∃e∈upto back S.R,e.lit=-x):Rs (learnT S back s):=by
 obtain ⟨e1,⟨d,e2,e3,e4⟩,e5,e6,e7⟩:=eyes_H S s
 have h1:Rs (eyesS S s):=h.to e5 e1
 have h2:Rs (cutS (eyesS S s) back):=h1.cut (by unfold StE; rw [e5,e6,e7]; exact hs) hb0 (by rw [e6]; exact hbl)
 have h3:=h2.put (k:=S.H.length) (d:=d) (l:=s.headD 0) e2 ⟨by rw [e3]; cases s with
  | nil=>exact absurd rfl hne
  | cons y ys=>simp,fun x hx hxn=>by
  rw [e3] at hx
  obtain ⟨e,he,hl⟩:=hu x hx hxn
  exact ⟨e,by show e∈upto back (eyesS S s).R; rw [e5]; exact he,hl⟩⟩
 rw [e4] at h3
 exact h3
theorem Rs.forget {S:ES} (h:Rs S) (i:Int):Rs (forget S i).2:=by
 unfold Eng.forget
 split
 ·exact h
 ·split
  ·exact h
  ·split
   ·exact h
   ·rename_i k hk
    split
    ·exact h
    ·rename_i d hd
     split
     ·exact h
     ·refine h.to rfl fun j d1 hj=>?_
      show ∃d',(S.H.set k {d with gone:=true})[j]?=some d'∧d'.ls=d1.ls∧d'.at_=d1.at_
      rw [List.getElem?_set]
      by_cases hkj:k=j
      ·subst hkj
       rw [hd] at hj; injection hj with hj; subst hj
       rw [if_pos rfl,if_pos (List.getElem?_eq_some_iff.1 hd).1]
       exact ⟨_,rfl,rfl,rfl⟩
      ·rw [if_neg hkj]; exact ⟨d1,hj,rfl,rfl⟩
end Go.Proofs.YtmhjehodfggleaaGreat.Eng

/- An Engine in plain: held clauses stand in the arena; an entry's reason, told. -/

set_option linter.unusedVariables false
set_option linter.unusedSimpArgs false
set_option linter.unusedSectionVars false
set_option maxRecDepth 100000
namespace Go.Proofs.YtmhjehodfggleaaGreat.Eng
open Go Go.Proofs.YtmhjehodfggleaaGreat.Vc Go.Proofs.YtmhjehodfggleaaGreat.T
open Go.Proofs.YtmhjehodfggleaaGreat.Arn (Ar words off cw)
open Go.Proofs.YtmhjehodfggleaaGreat.Lits (fl fl_iff)
open Go.Proofs.YtmhjehodfggleaaGreat.Learn (En)
structure Pl (S:ES):Prop where
 at':∀(k:Nat) (d:Hd),S.H[k]?=some d→∃(j:Nat) (c:List Int),S.ar.cs[j]?=some c∧d.at_=off S.ar.cs j∧(∀x,x∈c↔x∈d.ls)∧(d.gone=false→d.at_∈S.ar.live)
 inj:∀(k k':Nat) (d d':Hd),S.H[k]?=some d→S.H[k']?=some d'→d.at_=d'.at_→k=k'
 nd:S.ar.live.Nodup
 lv:∀r∈S.ar.live,∃j,j<S.ar.cs.length∧r=off S.ar.cs j
def Rg (S:ES):Prop:=∀e∈S.R,0≤e.rs→∃(k:Nat) (d:Hd),S.H[k]?=some d∧d.at_=e.rs∧d.gone=false
theorem Pl.get {S:ES} (h:Pl S) {k:Nat} {d:Hd} (hd:S.H[k]?=some d) (hg:d.gone=false):∀x,x∈arGet S.ar d.at_↔x∈d.ls:=by
 obtain ⟨j,c,h1,h2,h3,h4⟩:=h.at' k d hd
 unfold arGet
 rw [if_pos (h4 hg),h2,arFind_off _ _ _ h1]
 exact h3
theorem ent_rs {S:ES} (hp:Pl S) (hg:Rg S) {e:Trail.E} (he:e∈S.R) (h0:0≤e.rs):∃(k:Nat) (d:Hd),S.H[k]?=some d∧d.at_=e.rs∧d.gone=false∧∀x,x∈(entE S e).rs↔x∈d.ls:=by
 obtain ⟨k,d,h1,h2,h3⟩:=hg e he h0
 refine ⟨k,d,h1,h2,h3,fun x=>?_⟩
 unfold entE
 rw [if_pos h0,←h2]
 exact hp.get h1 h3 x
theorem lock_of {S:ES} (hp:Pl S) (hg:Rg S) (hw:WfE S) {k:Nat} {d:Hd} (hd:S.H[k]?=some d) (hne:d.ls≠[]) {e:Trail.E} (he:e∈S.R) (h0:0≤e.rs) (ha:d.at_=e.rs):reasonB S d=true:=by
 obtain ⟨k',d',h1,h2,h3,h4⟩:=ent_rs hp hg he h0
 have hk:=hp.inj k k' d d' hd h1 (by rw [ha,h2])
 subst hk
 rw [hd] at h1; injection h1 with h1; subst h1
 have hf:∀x∈d.ls,fl x=true:=fun x hx=>wi_fl hw.nv ((hw.hl k d hd).1 x hx)
 unfold reasonB
 refine List.any_eq_true.2 ⟨entE S e,List.mem_map.2 ⟨e,he,rfl⟩,?_⟩
 unfold rsB sameB
 have hpos:0<(entE S e).rs.length:=by
  obtain ⟨x,hx⟩:=List.exists_mem_of_ne_nil _ hne
  exact List.length_pos_of_mem ((h4 x).2 hx)
 simp only [Bool.and_eq_true,decide_eq_true_eq,List.all_eq_true]
 exact ⟨hpos,⟨fun x hx=>hf x ((h4 x).1 hx),hf⟩,fun x hx=>(h4 x).1 hx,fun x hx=>(h4 x).2 hx⟩
end Go.Proofs.YtmhjehodfggleaaGreat.Eng

/- An Engine in plain: its entries are a trail as learn asks. -/

set_option linter.unusedVariables false
set_option linter.unusedSimpArgs false
set_option linter.unusedSectionVars false
set_option maxRecDepth 100000
namespace Go.Proofs.YtmhjehodfggleaaGreat.Eng
open Go Go.Proofs.YtmhjehodfggleaaGreat.Vc Go.Proofs.YtmhjehodfggleaaGreat.T
open Go.Proofs.YtmhjehodfggleaaGreat.Trail (E St ownB)
open Go.Proofs.YtmhjehodfggleaaGreat.Lits (fl fl_iff)
open Go.Proofs.YtmhjehodfggleaaGreat.Learn (En Fm Good Lev Rsn lastLev)
theorem fm_snoc {es:List En} {x:En} (h:Fm es) (hx:Learn.Good es x):Fm (es++[x]):=fun i y hy=>by
 rcases snoc_get hy with ⟨hi,h1⟩ | ⟨hi,rfl⟩
 ·rw [List.take_append_of_le_length (by omega)]; exact h i y h1
 ·rw [hi,List.take_append_of_le_length (Nat.le_refl _),List.take_length]; exact hx
theorem neg_eq {l:Int} (h:fl l=true):Learn.neg l=-l:=by
 have:=fl_iff.1 h
 unfold Learn.neg; rw [IntKind.wrap_i64]; omega
def RT (f:E→En) (R:List E):Prop:=∀(i:Nat) (e:E),R[i]?=some e→(f e).lit=e.lit∧(f e).lev=e.lv∧(e.rs<0→(f e).rs=[])∧(0≤e.rs→(f e).rs.all fl=true∧e.lit∈(f e).rs∧∀l∈(f e).rs,l≠e.lit→∃(j:Nat) (g:E),j<i∧R[j]?=some g∧g.lit=-l)
theorem RT.front {f:E→En} {R:List E} {x:E} (h:RT f (R++[x])):RT f R:=fun i e he=>by
 have hi:=(List.getElem?_eq_some_iff.1 he).1
 obtain ⟨a,b,c,d⟩:=h i e (by rw [List.getElem?_append_left hi]; exact he)
 refine ⟨a,b,c,fun h0=>?_⟩
 obtain ⟨p,q,r⟩:=d h0
 refine ⟨p,q,fun l hl hne=>?_⟩
 obtain ⟨j,g,hj,hg,hgl⟩:=r l hl hne
 rw [List.getElem?_append_left (by omega)] at hg
 exact ⟨j,g,hj,hg,hgl⟩
theorem fm_of {n:Nat} (hn:n≤1048576) {f:E→En} {R:List E} {L:List Int} (h:St n R L):RT f R→Fm (R.map f)∧lastLev (R.map f)=L.length:=by
 have common:∀{R:List E} {x:E},(∀e∈R,ownB n e.lit=true)→ownB n x.lit=true→Trail.Open R x.lit→RT f (R++[x])→fl (f x).lit=true∧∀y∈R.map f,y.lit≠(f x).lit∧y.lit≠Learn.neg (f x).lit:=fun {R x} ho hx hop hT=>by
  obtain ⟨a,_,_,_⟩:=hT R.length x (by rw [List.getElem?_append_right (Nat.le_refl _),Nat.sub_self]; rfl)
  have hfx:fl x.lit=true:=wi_fl hn (own_wi hx)
  rw [a]
  refine ⟨hfx,fun y hy=>?_⟩
  obtain ⟨e,he,rfl⟩:=List.mem_map.1 hy
  obtain ⟨i,hi,rfl⟩:=List.getElem_of_mem he
  obtain ⟨b,_,_,_⟩:=hT.front i _ (List.getElem?_eq_getElem hi)
  have hne:=hop _ he
  rw [b,neg_eq hfx]
  exact ⟨fun e=>hne (by rw [e]),fun e=>hne (by rw [e,Int.natAbs_neg])⟩
 have lst:∀{R:List E} {x:E},lastLev ((R++[x]).map f)=(f x).lev:=fun {R x}=>by
  rw [List.map_append]; unfold lastLev; simp
 induction h with
 | nil=>exact fun _=>⟨fun i x hx=>by simp at hx,rfl⟩
 | @imply R L l r h ho hop hr ih=>
  intro hT
  obtain ⟨h1,h2⟩:=ih hT.front
  obtain ⟨c1,c2⟩:=common h.own ho hop hT
  obtain ⟨a,b,c,d⟩:=hT R.length _ (by rw [List.getElem?_append_right (Nat.le_refl _),Nat.sub_self]; rfl)
  obtain ⟨p,q,s⟩:=d hr
  refine ⟨?_,by rw [lst,b]⟩
  rw [List.map_append]
  refine fm_snoc h1 ⟨c1,c2,⟨Or.inl (by rw [b,h2]),Or.inr ⟨fun hh=>absurd (by rw [b,h2]) hh,fun hh=>by rw [hh] at q; cases q⟩⟩,fun _=>⟨p,by rw [a]; exact q,fun l' hl' hne=>?_⟩⟩
  obtain ⟨j,g,hj,hg,hgl⟩:=s l' hl' (by rw [a] at hne; exact hne)
  rw [List.getElem?_append_left hj] at hg
  obtain ⟨b',_,_,_⟩:=hT.front j g hg
  refine ⟨f g,List.mem_map.2 ⟨g,List.mem_of_getElem? hg,rfl⟩,?_⟩
  rw [b',hgl,neg_eq (List.all_eq_true.1 p l' hl')]
 | @decide R L l h ho hop ih=>
  intro hT
  obtain ⟨h1,h2⟩:=ih hT.front
  obtain ⟨c1,c2⟩:=common h.own ho hop hT
  obtain ⟨a,b,c,d⟩:=hT R.length _ (by rw [List.getElem?_append_right (Nat.le_refl _),Nat.sub_self]; rfl)
  have hl1:=h.levs
  have hl2:=h.len
  refine ⟨?_,by rw [lst,b,List.length_append]; rfl⟩
  rw [List.map_append]
  have hrs:=c (show (-1:Int)<0 by decide)
  refine fm_snoc h1 ⟨c1,c2,⟨Or.inr (by rw [b,h2,IntKind.wrap_i64]; show ((L.length+1:Nat):Int)=_; omega),Or.inr ⟨fun _=>hrs,fun _=>by rw [b,h2]; show ((L.length+1:Nat):Int)≠_; omega⟩⟩,fun hh=>absurd hrs hh⟩
end Go.Proofs.YtmhjehodfggleaaGreat.Eng

/- An Engine in plain: its entries, told, are formed. -/

set_option linter.unusedVariables false
set_option linter.unusedSimpArgs false
set_option linter.unusedSectionVars false
set_option maxRecDepth 100000
namespace Go.Proofs.YtmhjehodfggleaaGreat.Eng
open Go Go.Proofs.YtmhjehodfggleaaGreat.Vc Go.Proofs.YtmhjehodfggleaaGreat.T
open Go.Proofs.YtmhjehodfggleaaGreat.Trail (E St ownB)
open Go.Proofs.YtmhjehodfggleaaGreat.Lits (fl fl_iff)
open Go.Proofs.YtmhjehodfggleaaGreat.Learn (En Fm lastLev)
theorem rt_of {S:ES} (hw:WF S) (hr:Rs S) (hp:Pl S) (hg:Rg S):RT (entE S) S.R:=fun i e he=>by
 refine ⟨rfl,rfl,fun hlt=>?_,fun h0=>?_⟩
 ·unfold entE; exact if_neg (by omega)
 ·have hem:=List.mem_of_getElem? he
  obtain ⟨k,d,h1,h2,h3,h4⟩:=ent_rs hp hg hem h0
  obtain ⟨k',d',g1,g2,g3,g4⟩:=hr.rsn i e he h0
  have hk:=hp.inj k k' d d' h1 g1 (by rw [h2,g2])
  subst hk
  rw [h1] at g1; injection g1 with g1; subst g1
  exact ⟨List.all_eq_true.2 fun x hx=>wi_fl hw.nv ((hw.hl k d h1).1 x ((h4 x).1 hx)),(h4 _).2 g3,fun l hl hne=>g4 l ((h4 l).1 hl) hne⟩
theorem entS_fm {S:ES} (hw:WF S) (hr:Rs S) (hp:Pl S) (hg:Rg S):Fm (entS S)∧lastLev (entS S)=S.L.length:=fm_of hw.nv hw.st (rt_of hw hr hp hg)
end Go.Proofs.YtmhjehodfggleaaGreat.Eng

/- An Engine in plain: places and reasons kept through a spread, a decision, a way back. -/

set_option linter.unusedVariables false
set_option linter.unusedSimpArgs false
set_option linter.unusedSectionVars false
set_option maxRecDepth 100000
namespace Go.Proofs.YtmhjehodfggleaaGreat.Eng
open Go Go.Proofs.YtmhjehodfggleaaGreat.Vc Go.Proofs.YtmhjehodfggleaaGreat.T
open Go.Proofs.YtmhjehodfggleaaGreat.Trail (E St ownB upto)
theorem Fr.fwd {S S':ES} (h:Fr S S') {k:Nat} {d:Hd} (hd:S.H[k]?=some d):∃d',S'.H[k]?=some d'∧d'.ls=d.ls∧d'.at_=d.at_∧d'.gone=d.gone:=by
 obtain ⟨d',hd'⟩:=Go.Proofs.YtmhjehodfggleaaGreat.Apart.getE (show k<S'.H.length by rw [h.hlen]; exact (List.getElem?_eq_some_iff.1 hd).1)
 obtain ⟨d0,h0,r⟩:=h.hls k d' hd'
 rw [hd] at h0; injection h0 with h0; subst h0
 exact ⟨d',hd',r⟩
theorem Pl.fr {S S':ES} (h:Pl S) (hf:Fr S S'):Pl S':=by
 refine ⟨fun k d' hd'=>?_,fun k k' d1 d2 h1 h2 he=>?_,by rw [hf.ar]; exact h.nd,by rw [hf.ar]; exact h.lv⟩
 ·obtain ⟨d,hd,e1,e2,e3⟩:=hf.hls k d' hd'
  rw [hf.ar,e1,e2,e3]
  exact h.at' k d hd
 ·obtain ⟨a,ha,_,ea,_⟩:=hf.hls k d1 h1
  obtain ⟨b,hb,_,eb,_⟩:=hf.hls k' d2 h2
  exact h.inj k k' a b ha hb (by rw [←ea,←eb,he])
theorem Rg.fr {S S':ES} (h:Rg S) (hf:Fr S S') (hn:∀e∈S'.R,e∈S.R∨(0≤e.rs→∃(k:Nat) (d:Hd),S.H[k]?=some d∧d.at_=e.rs∧d.gone=false)):Rg S':=fun e he h0=>by
 have:∃(k:Nat) (d:Hd),S.H[k]?=some d∧d.at_=e.rs∧d.gone=false:=by
  rcases hn e he with h1 | h1
  ·exact h e h1 h0
  ·exact h1 h0
 obtain ⟨k,d,hd,h2,h3⟩:=this
 obtain ⟨d',hd',_,e2,e3⟩:=hf.fwd hd
 exact ⟨k,d',hd',e2.trans h2,e3.trans h3⟩
theorem Rg.put {S:ES} (h:Rg S) {k:Nat} {d:Hd} (hd:S.H[k]?=some d) (hg:d.gone=false) (l:Int):Rg (putS S l d.at_):=
 h.fr (fr_put S l d.at_) fun e he=>by
  rcases List.mem_append.1 he with he | he
  ·exact Or.inl he
  ·rw [List.mem_singleton.1 he]; exact Or.inr fun _=>⟨k,d,hd,rfl,hg⟩
theorem Rg.vstep {l:Int} {S:ES} (h:Rg S) (k:Nat) (stay:List Nat) (ok:Bool):Rg (vstep l (S,stay,ok) k).1:=by
 unfold Eng.vstep
 dsimp only
 cases hd:S.H[k]? with
 | none=>exact h
 | some d=>
  dsimp only
  split
  ·exact h
  ·rename_i hg
   have hg:d.gone=false:=by simpa using hg
   split
   ·exact h
   ·split
    ·exact h.fr (fr_move hd _ _) fun e he=>Or.inl he
    ·split
     ·exact h.fr (fr_bad _ _) fun e he=>Or.inl he
     ·split
      ·exact h.put hd hg _
      ·exact h
theorem Rg.fold {l:Int} : ∀(todo:List Nat) (acc:ES×List Nat×Bool),Rg acc.1→Rg (todo.foldl (Eng.vstep l) acc).1
 | [],acc,h=>h
 | k :: todo,(S,stay,ok),h=>Rg.fold todo _ (Rg.vstep h k stay ok)
theorem Rg.visit {S:ES} (h:Rg S) (l:Int):Rg (visit S l).1:=
 (Rg.fold (listAt S (idxN l)) ({S with lists:=S.lists.set (idxN l) []},[],true) h:Rg _)
def Sg (S:ES):Prop:=∀k∈S.short,∀d,S.H[k]?=some d→d.gone=false
theorem Sg.fr {S S':ES} (h:Sg S) (hf:Fr S S'):Sg S':=fun k hk d hd=>by
 rw [hf.short] at hk
 obtain ⟨d0,h0,_,_,e⟩:=hf.hls k d hd
 rw [e]; exact h k hk d0 h0
theorem Rg.sfold:∀(ids:List Nat) (acc:ES×Bool),Rg acc.1→(∀k∈ids,∀d,acc.1.H[k]?=some d→d.gone=false)→Rg (ids.foldl sstep acc).1
 | [],acc,h,_=>h
 | k :: ids,acc,h,hs=>by
  have hf:=fr_sstep acc k
  refine Rg.sfold ids (sstep acc k) ?_ fun j hj d hd=>?_
  ·unfold sstep
   split
   ·exact h
   ·split
    ·exact h
    ·rename_i d hd
     unfold Eng.single
     split
     ·split
      ·exact h
      ·exact h.put hd (hs k (by simp) d hd) _
     ·exact h.fr (fr_bad _ _) fun e he=>Or.inl he
  ·obtain ⟨d0,h0,_,_,e⟩:=hf.hls j d hd
   rw [e]; exact hs j (List.mem_cons_of_mem _ hj) d0 h0
theorem Rg.spreadN:∀(n:Nat) (S:ES),Rg S→Rg (spreadN n S).1
 | 0,S,h=>h
 | n+1,S,h=>by
  unfold Eng.spreadN
  cases he:S.R[S.head]? with
  | none=>exact h
  | some e=>
   dsimp only
   have h1:Rg (Eng.visit {S with head:=S.head+1} (-e.lit)).1:=Rg.visit (S:={S with head:=S.head+1}) h _
   split
   ·exact Rg.spreadN n _ h1
   ·exact h1
theorem Rg.spread {S:ES} (h:Rg S) (hs:Sg S):Rg (spread S).1:=by
 unfold Eng.spread
 split
 ·exact h
 dsimp only
 have hsh:Rg (shorts S).1:=by
  unfold shorts
  split
  ·exact Rg.sfold S.short (S,true) h hs
  ·exact h
 split
 ·exact Rg.spreadN S.nv (shorts S).1 hsh
 ·exact hsh
theorem Rg.dec {S:ES} (h:Rg S) (l:Int):Rg (decS S l):=by
 unfold decS
 split
 ·intro e he h0
  have he':e∈S.R++[(⟨l,(S.L.length+1:Nat),-1⟩:E)]:=he
  rcases List.mem_append.1 he' with he' | he'
  ·exact h e he' h0
  ·rw [List.mem_singleton.1 he'] at h0
   exact absurd h0 (show ¬(0:Int)≤-1 by decide)
 ·exact h
theorem Rg.cut {S:ES} (h:Rg S) (k:Int):Rg (cutS S k):=fun e he h0=>h e (List.mem_filter.1 he).1 h0
end Go.Proofs.YtmhjehodfggleaaGreat.Eng

/- An Engine in plain: places kept through a clause more, and a clause forgotten. -/

set_option linter.unusedVariables false
set_option linter.unusedSimpArgs false
set_option linter.unusedSectionVars false
set_option maxRecDepth 100000
namespace Go.Proofs.YtmhjehodfggleaaGreat.Eng
open Go Go.Proofs.YtmhjehodfggleaaGreat.Vc Go.Proofs.YtmhjehodfggleaaGreat.T
open Go.Proofs.YtmhjehodfggleaaGreat.Arn (Ar words off cw off_new off_old off_lt)
theorem Pl.putAr {S:ES} (h:Pl S) (c:List Int):Pl (putAr S c):=by
 have hlt:∀r∈S.ar.live,r<((words S.ar.cs).length:Nat):=fun r hr=>by
  obtain ⟨j,hj,rfl⟩:=h.lv r hr
  have:=off_lt S.ar.cs hj
  omega
 refine ⟨fun k d hd=>?_,h.inj,?_,fun r hr=>?_⟩
 ·obtain ⟨j,c0,h1,h2,h3,h4⟩:=h.at' k d hd
  have hj:=(List.getElem?_eq_some_iff.1 h1).1
  refine ⟨j,c0,?_,?_,h3,fun hg=>List.mem_append_left _ (h4 hg)⟩
  ·show (S.ar.cs++[c])[j]?=some c0; rw [List.getElem?_append_left hj]; exact h1
  ·show d.at_=off (S.ar.cs++[c]) j; rw [off_old _ _ (by omega)]; exact h2
 ·show (S.ar.live++[((words S.ar.cs).length:Int)]).Nodup
  exact List.nodup_append.2 ⟨h.nd,by simp,fun a ha b hb=>by rw [List.mem_singleton.1 hb]; have:=hlt a ha; omega⟩
 ·have hr':r∈S.ar.live++[((words S.ar.cs).length:Int)]:=hr
  have hl:(S.ar.cs++[c]).length=S.ar.cs.length+1:=by rw [List.length_append]; rfl
  show ∃j,j<(S.ar.cs++[c]).length∧r=off (S.ar.cs++[c]) j
  rcases List.mem_append.1 hr' with hr' | hr'
  ·obtain ⟨j,hj,e⟩:=h.lv r hr'
   exact ⟨j,by omega,by rw [off_old _ _ (by omega)]; exact e⟩
  ·exact ⟨S.ar.cs.length,by omega,by rw [off_new]; exact List.mem_singleton.1 hr'⟩
theorem Pl.hold {S:ES} (h:Pl S) {c:List Int} {d:Hd} (ha:d.at_=atN S) (hs:∀x,x∈c↔x∈d.ls):Pl {Eng.putAr S c with H:=S.H++[d]}:=by
 have hP:=h.putAr c
 refine ⟨fun k d' hd=>?_,fun k k' d1 d2 h1 h2 he=>?_,hP.nd,hP.lv⟩
 ·rcases snoc_get hd with ⟨_,h1⟩ | ⟨_,rfl⟩
  ·exact hP.at' k d' h1
  ·refine ⟨S.ar.cs.length,c,?_,?_,hs,fun _=>?_⟩
   ·show (S.ar.cs++[c])[S.ar.cs.length]?=some c
    rw [List.getElem?_append_right (Nat.le_refl _),Nat.sub_self]; rfl
   ·show d.at_=off (S.ar.cs++[c]) _; rw [off_new,ha]; rfl
   ·rw [ha]; exact List.mem_append_right _ (by simp [atN])
 ·have old:∀{k:Nat} {d0:Hd},S.H[k]?=some d0→d0.at_≠atN S:=fun {k d0} h0 e=>by
   obtain ⟨j,c0,q1,q2,_,_⟩:=h.at' k d0 h0
   have:=off_lt S.ar.cs (List.getElem?_eq_some_iff.1 q1).1
   rw [e] at q2
   unfold atN at q2
   omega
  rcases snoc_get h1 with ⟨_,g1⟩ | ⟨e1,rfl⟩<;>rcases snoc_get h2 with ⟨_,g2⟩ | ⟨e2,rfl⟩
  ·exact h.inj k k' d1 d2 g1 g2 he
  ·exact absurd (he.trans ha) (old g1)
  ·exact absurd (he.symm.trans ha) (old g2)
  ·omega
end Go.Proofs.YtmhjehodfggleaaGreat.Eng

/- An Engine in plain: places kept through watching and forgetting. -/

set_option linter.unusedVariables false
set_option linter.unusedSimpArgs false
set_option linter.unusedSectionVars false
set_option maxRecDepth 100000
namespace Go.Proofs.YtmhjehodfggleaaGreat.Eng
open Go Go.Proofs.YtmhjehodfggleaaGreat.Vc Go.Proofs.YtmhjehodfggleaaGreat.T
open Go.Proofs.YtmhjehodfggleaaGreat.Arn (Ar words off cw)
theorem Pl.to {S S':ES} (h:Pl S) (ha:S'.ar=S.ar) (hH:∀(k:Nat) (d':Hd),S'.H[k]?=some d'→∃d,S.H[k]?=some d∧d'.ls=d.ls∧d'.at_=d.at_∧d'.gone=d.gone):Pl S':=by
 refine ⟨fun k d' hd'=>?_,fun k k' d1 d2 h1 h2 he=>?_,by rw [ha]; exact h.nd,by rw [ha]; exact h.lv⟩
 ·obtain ⟨d,hd,e1,e2,e3⟩:=hH k d' hd'
  rw [ha,e1,e2,e3]
  exact h.at' k d hd
 ·obtain ⟨a,ha,_,ea,_⟩:=hH k d1 h1
  obtain ⟨b,hb,_,eb,_⟩:=hH k' d2 h2
  exact h.inj k k' a b ha hb (by rw [←ea,←eb,he])
theorem watch_H {S:ES} {k:Nat} {d:Hd} (hd:S.H[k]?=some d) (a c:Int):∀(j:Nat) (d':Hd),(watchS S k d a c).H[j]?=some d'→∃d0,S.H[j]?=some d0∧d'.ls=d0.ls∧d'.at_=d0.at_∧d'.gone=d0.gone:=fun j d' hj=>by
 have hj':(S.H.set k {d with e0:=a,e1:=c})[j]?=some d':=hj
 rw [List.getElem?_set] at hj'
 by_cases hkj:k=j
 ·subst hkj
  rw [if_pos rfl,if_pos (List.getElem?_eq_some_iff.1 hd).1] at hj'
  injection hj' with hj'
  exact ⟨d,hd,by rw [←hj'],by rw [←hj'],by rw [←hj']⟩
 ·rw [if_neg hkj] at hj'; exact ⟨d',hj',rfl,rfl,rfl⟩
theorem Pl.watch {S:ES} (h:Pl S) {k:Nat} {d:Hd} (hd:S.H[k]?=some d) (a c:Int):Pl (watchS S k d a c):=h.to rfl (watch_H hd a c)
theorem Pl.forget {S:ES} (h:Pl S) (i:Int):Pl (forget S i).2:=by
 unfold Eng.forget
 split
 ·exact h
 ·split
  ·exact h
  ·split
   ·exact h
   ·rename_i k hk
    split
    ·exact h
    ·rename_i d hd
     split
     ·exact h
     ·have hkl:=(List.getElem?_eq_some_iff.1 hd).1
      have hH:∀(j:Nat) (d':Hd),(S.H.set k {d with gone:=true})[j]?=some d'→(j=k∧d'={d with gone:=true})∨(j≠k∧S.H[j]?=some d'):=fun j d' hj=>by
       rw [List.getElem?_set] at hj
       by_cases hkj:k=j
       ·subst hkj
        rw [if_pos rfl,if_pos hkl] at hj
        injection hj with hj
        exact Or.inl ⟨rfl,hj.symm⟩
       ·rw [if_neg hkj] at hj; exact Or.inr ⟨fun e=>hkj e.symm,hj⟩
      refine ⟨fun j d' hj=>?_,fun j j' d1 d2 h1 h2 he=>?_,h.nd.erase _,fun r hr=>h.lv r (List.mem_of_mem_erase hr)⟩
      ·rcases hH j d' hj with ⟨rfl,rfl⟩ | ⟨hne,h0⟩
       ·obtain ⟨a,c,q1,q2,q3,_⟩:=h.at' _ d hd
        exact ⟨a,c,q1,q2,q3,fun hg=>by cases hg⟩
       ·obtain ⟨a,c,q1,q2,q3,q4⟩:=h.at' j d' h0
        refine ⟨a,c,q1,q2,q3,fun hg=>?_⟩
        exact (List.mem_erase_of_ne fun e=>hne (h.inj j k d' d h0 hd e)).2 (q4 hg)
      ·rcases hH j d1 h1 with ⟨rfl,rfl⟩ | ⟨_,g1⟩<;>rcases hH j' d2 h2 with ⟨rfl,rfl⟩ | ⟨_,g2⟩
       ·rfl
       ·exact h.inj _ j' d d2 hd g2 he
       ·exact h.inj j _ d1 d g1 hd he
       ·exact h.inj j j' d1 d2 g1 g2 he
end Go.Proofs.YtmhjehodfggleaaGreat.Eng

/- An Engine in plain: all that holds of it, together; it begins so. -/

set_option linter.unusedVariables false
set_option linter.unusedSimpArgs false
set_option linter.unusedSectionVars false
set_option maxRecDepth 100000
namespace Go.Proofs.YtmhjehodfggleaaGreat.Eng
open Go Go.Proofs.YtmhjehodfggleaaGreat.Vc Go.Proofs.YtmhjehodfggleaaGreat.T
open Go.Proofs.YtmhjehodfggleaaGreat.Arn (Ar words off cw)
open Go.Proofs.YtmhjehodfggleaaGreat.Lits (fl fl_iff Td)
open Go.Proofs.YtmhjehodfggleaaGreat.Apart (getE)
structure Inv (S:ES):Prop extends WF S where
 rs:Rs S
 pl:Pl S
 rg:Rg S
 s1:Sh1 S
 sg:Sg S
 dj:∀k∈S.short,k∉S.learnts
theorem Inv.spread {S:ES} (h:Inv S):Inv (spread S).1∧Fr {S with head:=(spread S).1.head,rest:=(spread S).1.rest,clash:=(spread S).1.clash} (spread S).1:=by
 have hf:Fr {S with head:=(Eng.spread S).1.head,rest:=(Eng.spread S).1.rest,clash:=(Eng.spread S).1.clash} (Eng.spread S).1:=by
  unfold Eng.spread
  split
  ·exact Fr.refl _
  dsimp only
  have hsh:WfE (shorts S).1∧StE (shorts S).1∧Fr S (shorts S).1:=by
   unfold shorts
   split
   ·have:=sfold_inv S.short (S,true) h.toWfE h.st
    exact ⟨this.1,this.2,fr_sfold S.short (S,true)⟩
   ·exact ⟨h.toWfE,h.st,Fr.refl _⟩
  obtain ⟨a,b,c⟩:=hsh
  split
  ·obtain ⟨d,e,f⟩:=spreadN_inv S.nv (shorts S).1 a b
   have g:Fr {S with head:=(spreadN S.nv (shorts S).1).1.head} (spreadN S.nv (shorts S).1).1:=Fr.trans (S1:={(shorts S).1 with head:=(spreadN S.nv (shorts S).1).1.head}) {c with head:=rfl} f
   exact {g with rest:=rfl,clash:=rfl}
  ·exact {c with head:=rfl,rest:=rfl,clash:=rfl}
 refine ⟨⟨h.toWF.spread,Rs.spread h.toWF h.s1 h.rs,Pl.fr (S:={S with head:=(Eng.spread S).1.head,rest:=(Eng.spread S).1.rest,clash:=(Eng.spread S).1.clash}) (h.pl.to rfl fun k d hd=>⟨d,hd,rfl,rfl,rfl⟩) hf,h.rg.spread h.sg,Sh1.fr (S:={S with head:=(Eng.spread S).1.head,rest:=(Eng.spread S).1.rest,clash:=(Eng.spread S).1.clash}) h.s1 hf,Sg.fr (S:={S with head:=(Eng.spread S).1.head,rest:=(Eng.spread S).1.rest,clash:=(Eng.spread S).1.clash}) h.sg hf,by rw [hf.short,hf.learnts]; exact h.dj⟩,hf⟩
theorem Inv.dec {S:ES} (h:Inv S) (l:Int):Inv (decS S l):=by
 have hH:(decS S l).H=S.H∧(decS S l).short=S.short∧(decS S l).ar=S.ar∧(decS S l).learnts=S.learnts:=by unfold decS; split<;>exact ⟨rfl,rfl,rfl,rfl⟩
 refine ⟨h.toWF.dec l,h.rs.dec l,h.pl.to hH.2.2.1 fun k d hd=>⟨d,by rw [←hH.1]; exact hd,rfl,rfl,rfl⟩,h.rg.dec l,fun k hk d hd=>?_,fun k hk d hd=>?_,by rw [hH.2.1,hH.2.2.2]; exact h.dj⟩
 ·rw [hH.2.1] at hk; rw [hH.1] at hd; exact h.s1 k hk d hd
 ·rw [hH.2.1] at hk; rw [hH.1] at hd; exact h.sg k hk d hd
theorem Inv.cut {S:ES} (h:Inv S) {k:Int} (hk0:0≤k) (hk:k≤S.L.length):Inv (cutS S k):=
 ⟨h.toWF.cut hk0 hk,h.rs.cut h.st hk0 hk,h.pl.to rfl fun k d hd=>⟨d,hd,rfl,rfl,rfl⟩,h.rg.cut k,h.s1,h.sg,h.dj⟩
end Go.Proofs.YtmhjehodfggleaaGreat.Eng

/- An Engine in plain: Inv at its beginning, and through Forget. -/

set_option linter.unusedVariables false
set_option linter.unusedSimpArgs false
set_option linter.unusedSectionVars false
set_option maxRecDepth 100000
namespace Go.Proofs.YtmhjehodfggleaaGreat.Eng
open Go Go.Proofs.YtmhjehodfggleaaGreat.Vc Go.Proofs.YtmhjehodfggleaaGreat.T
open Go.Proofs.YtmhjehodfggleaaGreat.Arn (Ar words off cw)
open Go.Proofs.YtmhjehodfggleaaGreat.Lits (fl fl_iff Td)
open Go.Proofs.YtmhjehodfggleaaGreat.Apart (getE)
structure Ad (S:ES):Prop where
 pl:Pl S
 s1:Sh1 S
 sg:Sg S
theorem Ad.add {S:ES} (h:Ad S) (hw:WfS S) {c:List Int} (hc:∀x∈c,Wi S.nv x):Ad (addC S c):=by
 have hf:∀x∈c,fl x=true:=fun x hx=>wi_fl hw.nv (hc x hx)
 have hT:=tidyL_td hf
 have hs:∀x,x∈c↔x∈(tidHd S c).ls:=fun x=>⟨fun hx=>(hT.mem x).2 ⟨hx,hf x hx⟩,fun hx=>((hT.mem x).1 hx).1⟩
 have hP:=h.pl.hold (d:=tidHd S c) rfl hs
 have hget:(S.H++[tidHd S c])[S.H.length]?=some (tidHd S c):=by rw [List.getElem?_append_right (Nat.le_refl _),Nat.sub_self]; rfl
 have old:∀{k:Nat} {d:Hd},k∈S.short→(S.H++[tidHd S c])[k]?=some d→S.H[k]?=some d:=fun {k d} hk hd=>by
  rcases snoc_get hd with ⟨_,h1⟩ | ⟨e,_⟩
  ·exact h1
  ·have:=hw.sh k hk; omega
 unfold addC
 split
 ·exact ⟨h.pl.putAr c,h.s1,h.sg⟩
 ·split
  ·rename_i hlt
   refine ⟨hP.to rfl fun k d hd=>⟨d,hd,rfl,rfl,rfl⟩,fun k hk d hd=>?_,fun k hk d hd=>?_⟩
   ·have hk':k∈S.short++[S.H.length]:=hk
    have hd':(S.H++[tidHd S c])[k]?=some d:=hd
    rcases List.mem_append.1 hk' with hk' | hk'
    ·exact h.s1 k hk' d (old hk' hd')
    ·rw [List.mem_singleton.1 hk',hget] at hd'
     injection hd' with hd'; rw [←hd']; exact hlt
   ·have hk':k∈S.short++[S.H.length]:=hk
    have hd':(S.H++[tidHd S c])[k]?=some d:=hd
    rcases List.mem_append.1 hk' with hk' | hk'
    ·exact h.sg k hk' d (old hk' hd')
    ·rw [List.mem_singleton.1 hk',hget] at hd'
     injection hd' with hd'; rw [←hd']; rfl
  ·have hwH:=watch_H (S:={putAr S c with H:=S.H++[tidHd S c]}) (k:=S.H.length) (d:=tidHd S c) hget ((tidyL c).headD 0) ((tidyL c).tail.headD 0)
   refine ⟨Pl.watch (S:={putAr S c with H:=S.H++[tidHd S c]}) hP hget _ _,fun k hk d hd=>?_,fun k hk d hd=>?_⟩
   ·obtain ⟨d0,h0,e,_⟩:=hwH k d hd
    rw [e]; exact h.s1 k hk d0 (old hk h0)
   ·obtain ⟨d0,h0,_,_,e⟩:=hwH k d hd
    rw [e]; exact h.sg k hk d0 (old hk h0)
theorem newE_inv {nv:Nat} (hnv:nv≤1048576) {css:List (List Int)} (hn:css.length≤1048576) (hl:∀es∈css,es.length≤1048576) (hw:∀es∈css,∀x∈es,Wi nv x):Inv (newE nv css):=by
 have key:∀i,i≤css.length→NI ((css.take i).foldl addC (E0 nv)) i∧((css.take i).foldl addC (E0 nv)).nv=nv∧Ad ((css.take i).foldl addC (E0 nv)):=fun i=>by
  induction i with
  | zero=>exact fun _=>⟨ni0 hnv,rfl,⟨⟨fun k d hd=>by simp [E0] at hd,fun k k' d d' hd=>by simp [E0] at hd,List.nodup_nil,(fun r hr=>by cases hr)⟩,(fun k hk=>by cases hk),(fun k hk=>by cases hk)⟩⟩
  | succ i ih=>
   intro hi
   obtain ⟨h1,h2,h3⟩:=ih (by omega)
   obtain ⟨es,hes⟩:=getE (show i<css.length by omega)
   have hem:=List.mem_of_getElem? hes
   rw [take_snocN hes,List.foldl_append]
   obtain ⟨_,r0,_,_⟩:=addC_ar ((css.take i).foldl addC (E0 nv)) es
   exact ⟨h1.step (by rw [h2]; exact hw es hem) (hl es hem) (by omega),r0.trans h2,h3.add h1.wf (by rw [h2]; exact hw es hem)⟩
 have hk:=(key css.length (Nat.le_refl _)).2.2
 rw [List.take_length] at hk
 obtain ⟨_,_,hR,_,hLe,_⟩:=newE_ni hnv hn hl hw
 exact ⟨newE_wf hnv hn hl hw,rs_nil hR,hk.pl,(fun e he=>by rw [hR] at he; cases he),hk.s1,hk.sg,fun k _ hh=>by rw [hLe] at hh; cases hh⟩
theorem Inv.forget {S : ES} (h : Inv S) (i : Int) : Inv (forget S i).2 := by
  refine ⟨h.toWF.forget i, h.rs.forget i, h.pl.forget i, ?_, ?_, ?_, ?_⟩
  all_goals (
    unfold Eng.forget
    split
    · first | exact h.rg | exact h.s1 | exact h.sg | exact h.dj
    · split
      · first | exact h.rg | exact h.s1 | exact h.sg | exact h.dj
      · split
        · first | exact h.rg | exact h.s1 | exact h.sg | exact h.dj
        · rename_i k hk
          split
          · first | exact h.rg | exact h.s1 | exact h.sg | exact h.dj
          · rename_i d hd
            have hkl := (List.getElem?_eq_some_iff.1 hd).1
            have hkle : k ∈ S.learnts := List.mem_of_getElem? hk
            have hH : ∀ (j : Nat), (S.H.set k { d with gone := true })[j]? = if k = j then some { d with gone := true } else S.H[j]? := fun j => by
              rw [List.getElem?_set]
              by_cases hkj : k = j
              · rw [if_pos hkj, if_pos hkl, if_pos hkj]
              · rw [if_neg hkj, if_neg hkj]
            split
            · first | exact h.rg | exact h.s1 | exact h.sg | exact h.dj
            · rename_i hlk
              first
              | (show ∀ j ∈ S.short, j ∉ S.learnts.eraseIdx _
                 exact fun j hj hh => h.dj j hj (List.mem_of_mem_eraseIdx hh))
              | (show ∀ j ∈ S.short, ∀ d1, (S.H.set k { d with gone := true })[j]? = some d1 → d1.gone = false
                 intro j hj d1 hd1
                 rw [hH, if_neg (fun e : k = j => h.dj j hj (e ▸ hkle))] at hd1
                 exact h.sg j hj d1 hd1)
              | (show ∀ j ∈ S.short, ∀ d1, (S.H.set k { d with gone := true })[j]? = some d1 → d1.ls.length < 2
                 intro j hj d1 hd1
                 rw [hH, if_neg (fun e : k = j => h.dj j hj (e ▸ hkle))] at hd1
                 exact h.s1 j hj d1 hd1)
              | (intro e he h0
                 obtain ⟨k', d', g1, g2, g3⟩ := h.rg e he h0
                 refine ⟨k', d', ?_, g2, g3⟩
                 show (S.H.set k { d with gone := true })[k']? = some d'
                 rw [hH, if_neg (fun ek : k = k' => ?_)]
                 · exact g1
                 subst ek
                 rw [hd] at g1; injection g1 with g1; subst g1
                 obtain ⟨i', hi', rfl⟩ := List.getElem_of_mem he
                 obtain ⟨k2, d2, q1, q2, q3, _⟩ := h.rs.rsn i' _ (List.getElem?_eq_getElem hi') h0
                 have := h.pl.inj k k2 d d2 hd q1 (by rw [g2, q2])
                 subst this
                 rw [hd] at q1; injection q1 with q1; subst q1
                 exact hlk (by unfold lockB; rw [lock_of h.pl h.rg h.toWfE hd (fun e => by rw [e] at q3; cases q3) he h0 g2]; rfl)))
end Go.Proofs.YtmhjehodfggleaaGreat.Eng

/- An Engine in plain: Inv through Learn. -/

set_option linter.unusedVariables false
set_option linter.unusedSimpArgs false
set_option linter.unusedSectionVars false
set_option maxRecDepth 100000
namespace Go.Proofs.YtmhjehodfggleaaGreat.Eng
open Go Go.Proofs.YtmhjehodfggleaaGreat.Vc Go.Proofs.YtmhjehodfggleaaGreat.T
open Go.Proofs.YtmhjehodfggleaaGreat.Trail (E St ownB upto freeA)
open Go.Proofs.YtmhjehodfggleaaGreat.Apart (getE)
theorem eyes_G (S:ES) (s:List Int):(∀(k:Nat) (d:Hd),S.H[k]?=some d→(eyesS S s).H[k]?=some d)∧(∃d',(eyesS S s).H[S.H.length]?=some d'∧d'.ls=s∧d'.at_=atN S∧d'.gone=false)∧(eyesS S s).short=S.short∧(eyesS S s).learnts=S.learnts++[S.H.length]:=by
 have h1:∀(k:Nat) (d:Hd),S.H[k]?=some d→(S.H++[newHd S s])[k]?=some d:=fun k d hk=>by
  rw [List.getElem?_append_left (List.getElem?_eq_some_iff.1 hk).1]; exact hk
 have h2:(S.H++[newHd S s])[S.H.length]?=some (newHd S s):=by rw [List.getElem?_append_right (Nat.le_refl _),Nat.sub_self]; rfl
 have hl:S.H.length<(S.H++[newHd S s]).length:=by rw [List.length_append]; simp
 unfold eyesS
 split
 ·refine ⟨fun k d hk=>?_,⟨_,List.getElem?_set_self hl,rfl,rfl,rfl⟩,rfl,rfl⟩
  show ((S.H++[newHd S s]).set S.H.length _)[k]?=some d
  have:=(List.getElem?_eq_some_iff.1 hk).1
  rw [List.getElem?_set_ne (by omega)]
  exact h1 k d hk
 ·exact ⟨h1,⟨_,h2,rfl,rfl,rfl⟩,rfl,rfl⟩
theorem Pl.eyes {S:ES} (h:Pl S) (s:List Int):Pl (eyesS S s):=by
 have h1:Pl {Eng.putAr S s with H:=S.H++[newHd S s]}:=h.hold (c:=s) (d:=newHd S s) rfl fun x=>Iff.rfl
 have h2:Pl (heldS S s):=h1.to rfl fun k d hd=>⟨d,hd,rfl,rfl,rfl⟩
 unfold eyesS
 split
 ·exact h2.watch (k:=S.H.length) (d:=newHd S s) (by show (S.H++[newHd S s])[S.H.length]?=_; rw [List.getElem?_append_right (Nat.le_refl _),Nat.sub_self]; rfl) _ _
 ·exact h2
theorem Inv.learn {S:ES} (h:Inv S) {back:Int} {s:List Int} (hcl:S.H.length+1≤8796093022208) (hle:S.learnts.length+1≤8796093022208) (hne:s≠[]) (hw:∀x∈s,Wi S.nv x) (hnd:s.Nodup) (hsl:s.length≤2097153) (hb0:0≤back) (hbl:back≤S.L.length) (hf:freeA S.nv (upto back S.R) (s.headD 0)=0)
  (hu:∀x∈s,x≠s.headD 0→∃e∈upto back S.R,e.lit=-x):Inv (learnT S back s):=by
 obtain ⟨g1,⟨d0,g2,g3,g4,g5⟩,g6,g7⟩:=eyes_G S s
 obtain ⟨_,_,e5,_,_⟩:=eyes_H S s
 have old:∀{k:Nat} {d:Hd},k∈S.short→(eyesS S s).H[k]?=some d→S.H[k]?=some d:=fun {k d} hk hd=>by
  obtain ⟨d1,hd1⟩:=getE (h.sh k hk)
  have:=g1 k d1 hd1
  rw [hd] at this; injection this with this; rw [this]; exact hd1
 refine ⟨h.toWF.learn hcl hle hne hw hnd hsl hb0 hbl hf,h.rs.learn h.st hb0 hbl hne hu,(h.pl.eyes s).to rfl fun k d hd=>⟨d,hd,rfl,rfl,rfl⟩,fun e he h0=>?_,fun k hk d hd=>?_,fun k hk d hd=>?_,fun k hk hh=>?_⟩
 ·have he':e∈upto back (eyesS S s).R++[(⟨s.headD 0,((eyesS S s).L.take back.toNat).length,atN S⟩:E)]:=he
  show ∃(k:Nat) (d:Hd),(eyesS S s).H[k]?=some d∧d.at_=e.rs∧d.gone=false
  rcases List.mem_append.1 he' with he' | he'
  ·rw [e5] at he'
   obtain ⟨k,d,a,b,c⟩:=h.rg e (List.mem_filter.1 he').1 h0
   exact ⟨k,d,g1 k d a,b,c⟩
  ·rw [List.mem_singleton.1 he']
   exact ⟨_,d0,g2,g4,g5⟩
 ·have hk':k∈(eyesS S s).short:=hk
  rw [g6] at hk'
  exact h.s1 k hk' d (old hk' hd)
 ·have hk':k∈(eyesS S s).short:=hk
  rw [g6] at hk'
  exact h.sg k hk' d (old hk' hd)
 ·have hk':k∈(eyesS S s).short:=hk
  have hh':k∈(eyesS S s).learnts:=hh
  rw [g6] at hk'; rw [g7] at hh'
  rcases List.mem_append.1 hh' with hh' | hh'
  ·exact h.dj k hk' hh'
  ·have:=h.sh k hk'
   rw [List.mem_singleton.1 hh'] at this; omega
end Go.Proofs.YtmhjehodfggleaaGreat.Eng

/- An Engine in plain: what holds of watched clauses, through a visit. -/

set_option linter.unusedVariables false
set_option linter.unusedSimpArgs false
set_option linter.unusedSectionVars false
set_option maxRecDepth 100000
namespace Go.Proofs.YtmhjehodfggleaaGreat.Eng
open Go Go.Proofs.YtmhjehodfggleaaGreat.Vc Go.Proofs.YtmhjehodfggleaaGreat.T
open Go.Proofs.YtmhjehodfggleaaGreat.Trail (E St ownB upto freeA)
open Go.Proofs.YtmhjehodfggleaaGreat.Apart (getE)
def Wd (S:ES) (k:Nat) (d:Hd):Prop:=S.H[k]?=some d∧d.gone=false∧1<d.ls.length
def Ob (S:ES) (q:Nat) (u o:Int):Prop:=∀(p:Nat) (e:E),p<q→S.R[p]?=some e→e.lit=-u→∃f∈S.R,f.lit=o∧f.lv≤e.lv
theorem Ob.mono {S:ES} {q q':Nat} {u o:Int} (h:Ob S q u o) (hq:q'≤q):Ob S q' u o:=fun p e hp he hl=>h p e (by omega) he hl
structure Iw (S:ES) (q:Nat):Prop where
 hd:q≤S.head
 hl:S.head≤S.R.length
 lv:∀(p:Nat) (e:E),q≤p→S.R[p]?=some e→e.lv=S.L.length
 ey:∀k d,Wd S k d→d.e0∈d.ls∧d.e1∈d.ls∧d.e0≠d.e1
 mm:∀k d,Wd S k d→∀u,u=d.e0∨u=d.e1→k∈listAt S (idxN u)
 ob:∀k d,Wd S k d→Ob S q d.e0 d.e1∧Ob S q d.e1 d.e0
def Cl (S:ES):Prop:=∃(k:Nat) (d:Hd),S.H[k]?=some d∧d.gone=false∧d.at_=S.bad∧(∀x∈d.ls,∃e∈S.R,e.lit=-x)∧(S.L=[]∨∃x∈d.ls,∃e∈S.R,e.lit=-x∧e.lv=S.L.length)
structure Vw (l:Int) (S:ES) (todo stay:List Nat) (ok:Bool):Prop where
 h1:1≤S.head
 hl:S.head≤S.R.length
 ent:∃e,S.R[S.head - 1]?=some e∧e.lit=-l
 lv:∀(p:Nat) (e:E),S.head - 1≤p→S.R[p]?=some e→e.lv=S.L.length
 ey:∀k d,Wd S k d→d.e0∈d.ls∧d.e1∈d.ls∧d.e0≠d.e1
 m0:∀k d,Wd S k d→l=d.e0∨l=d.e1→k∈todo++stay
 m1:∀k d,Wd S k d→∀u,u=d.e0∨u=d.e1→u≠l→k∈listAt S (idxN u)
 ob:∀k d,Wd S k d→Ob S (S.head - 1) d.e0 d.e1∧Ob S (S.head - 1) d.e1 d.e0
 oo:ok=true→∀k d,Wd S k d→k∉todo→l=d.e0∨l=d.e1→∃f∈S.R,f.lit=other d l
 cl:ok=false→Cl S
section
variable {l:Int} {S:ES} {k:Nat} {d:Hd} {todo stay:List Nat} {ok:Bool}
theorem no_both (hs:StE S) {e f:E} (he:e∈S.R) (hf:f∈S.R) (h:e.lit=-f.lit):False:=by
 have h1:=(vl_mem hs he).1
 have h2:=(vl_mem hs hf).2
 rw [h] at h1; omega
theorem Ob.push {r:Int} {q:Nat} {u o x:Int} (h:Ob S q u o) (hq:q≤S.R.length):Ob (putS S x r) q u o:=fun p e hp he hl=>by
 have he':(S.R++[(⟨x,S.L.length,r⟩:E)])[p]?=some e:=he
 rw [List.getElem?_append_left (by omega)] at he'
 obtain ⟨f,hf,h1,h2⟩:=h p e hp he' hl
 exact ⟨f,List.mem_append_left _ hf,h1,h2⟩
theorem put_lv {q:Nat} (h:∀(p:Nat) (e:E),q≤p→S.R[p]?=some e→e.lv=S.L.length) (x r:Int):∀(p:Nat) (e:E),q≤p→(putS S x r).R[p]?=some e→e.lv=(putS S x r).L.length:=fun p e hp he=>by
 rcases snoc_get (show (S.R++[(⟨x,S.L.length,r⟩:E)])[p]?=some e from he) with ⟨_,h1⟩ | ⟨_,rfl⟩
 ·exact h p e hp h1
 ·rfl
theorem Vw.put (h:Vw l S (k :: todo) stay true) (hd:S.H[k]?=some d) (r:Int):Vw l (putS S (other d l) r) todo (stay++[k]) true:=by
 obtain ⟨e,he,hel⟩:=h.ent
 have hhl:=h.hl
 have hh1:=h.h1
 refine ⟨h.h1,by show S.head≤(S.R++[_]).length; rw [List.length_append]; omega,⟨e,by show (S.R++[_])[S.head - 1]?=some e; rw [List.getElem?_append_left (by omega)]; exact he,hel⟩,put_lv h.lv _ _,h.ey,fun j d' hw hl=>?_,h.m1,fun j d' hw=>⟨(h.ob j d' hw).1.push (by omega),(h.ob j d' hw).2.push (by omega)⟩,fun _ j d' hw hj hl=>?_,fun h=>by cases h⟩
 ·have:=h.m0 j d' hw hl
  simp only [List.cons_append,List.mem_cons,List.mem_append,List.mem_singleton] at this ⊢
  rcases this with rfl | hh | hh
  ·exact Or.inr (Or.inr (Or.inl rfl))
  ·exact Or.inl hh
  ·exact Or.inr (Or.inl hh)
 ·by_cases hjk:j=k
  ·subst hjk
   have hd':S.H[j]?=some d':=hw.1
   rw [hd] at hd'; injection hd' with hd'; subst hd'
   exact ⟨⟨other d l,S.L.length,r⟩,List.mem_append_right _ (List.mem_singleton.2 rfl),rfl⟩
  ·obtain ⟨f,hf,hfl⟩:=h.oo rfl j d' hw (by simp only [List.mem_cons,not_or]; exact ⟨hjk,hj⟩) hl
   exact ⟨f,List.mem_append_left _ hf,hfl⟩
theorem Vw.stays (h:Vw l S (k :: todo) stay ok) (hok:ok=true→∀d,Wd S k d→l=d.e0∨l=d.e1→∃f∈S.R,f.lit=other d l):Vw l S todo (stay++[k]) ok:=by
 refine ⟨h.h1,h.hl,h.ent,h.lv,h.ey,fun j d' hw hl=>?_,h.m1,h.ob,fun ho j d' hw hj hl=>?_,h.cl⟩
 ·have:=h.m0 j d' hw hl
  simp only [List.cons_append,List.mem_cons,List.mem_append,List.mem_singleton] at this ⊢
  rcases this with rfl | hh | hh
  ·exact Or.inr (Or.inr (Or.inl rfl))
  ·exact Or.inl hh
  ·exact Or.inr (Or.inl hh)
 ·by_cases hjk:j=k
  ·subst hjk; exact hok ho d' hw hl
  ·exact h.oo ho j d' hw (by simp only [List.mem_cons,not_or]; exact ⟨hjk,hj⟩) hl
theorem Vw.gone (h:Vw l S (k :: todo) stay ok) (hd:S.H[k]?=some d) (hg:d.gone=true):Vw l S todo stay ok:=by
 have hne:∀j d',Wd S j d'→j≠k:=fun j d' hw e=>by
  subst e
  have:=hw.1
  rw [hd] at this; injection this with this; subst this
  have:=hw.2.1; rw [hg] at this; cases this
 refine ⟨h.h1,h.hl,h.ent,h.lv,h.ey,fun j d' hw hl=>?_,h.m1,h.ob,fun ho j d' hw hj hl=>?_,h.cl⟩
 ·have:=h.m0 j d' hw hl
  rw [List.cons_append,List.mem_cons] at this
  exact this.resolve_left (hne j d' hw)
 ·exact h.oo ho j d' hw (by simp only [List.mem_cons,not_or]; exact ⟨hne j d' hw,hj⟩) hl
theorem Vw.bad (h:Vw l S (k :: todo) stay true) (hd:S.H[k]?=some d) (hg:d.gone=false) (hf:∀x∈d.ls,∃e∈S.R,e.lit=-x) (hl:l∈d.ls):Vw l {S with bad:=d.at_} todo (stay++[k]) false:=by
 obtain ⟨e,he,hel⟩:=h.ent
 refine ⟨h.h1,h.hl,h.ent,h.lv,h.ey,fun j d' hw hl=>?_,h.m1,h.ob,(fun ho=>by cases ho),fun _=>⟨k,d,hd,hg,rfl,hf,Or.inr ⟨l,hl,e,List.mem_of_getElem? he,hel,h.lv _ e (Nat.le_refl _) he⟩⟩⟩
 have:=h.m0 j d' hw hl
 simp only [List.cons_append,List.mem_cons,List.mem_append,List.mem_singleton] at this ⊢
 rcases this with rfl | hh | hh
 ·exact Or.inr (Or.inr (Or.inl rfl))
 ·exact Or.inl hh
 ·exact Or.inr (Or.inl hh)
theorem Vw.move (hv:VI l S (k :: todo) stay) (hs:StE S) (h:Vw l S (k :: todo) stay true) (hd:S.H[k]?=some d) {x:Int} (hx:goal S d l=some x):Vw l (moveS S k d l x) todo stay true:=by
 obtain ⟨x1,x2,x3,x4,x5⟩:=goal_some hx
 obtain ⟨d0,hd0,e1,e2,e3,e4⟩:=hv.td k (by simp)
 rw [hd] at hd0; injection hd0 with hd0; subst hd0
 obtain ⟨o1,o2,o3,o4⟩:=other_of e4 e3
 have hkl:=(List.getElem?_eq_some_iff.1 hd).1
 have hxw:=(hv.wf.hl k d hd).1 x x1
 have hxlt:=idxN_lt hxw
 obtain ⟨e,he,hel⟩:=h.ent
 have hem:=List.mem_of_getElem? he
 have hom:other d l∈d.ls:=by rcases o1 with o1 | o1<;>rw [o1]; exact e1; exact e2
 have hHk:∀(j:Nat),(S.H.set k {d with e0:=other d l,e1:=x})[j]?=if k=j then some {d with e0:=other d l,e1:=x} else S.H[j]?:=fun j=>by
  rw [List.getElem?_set]
  by_cases hkj:k=j
  ·rw [if_pos hkj,if_pos hkl,if_pos hkj]
  ·rw [if_neg hkj,if_neg hkj]
 have hW:∀j d',Wd (moveS S k d l x) j d'→(j≠k∧Wd S j d')∨(j=k∧d'={d with e0:=other d l,e1:=x}∧Wd S k d):=fun j d' ⟨w1,w2,w3⟩=>by
  have w1':(S.H.set k {d with e0:=other d l,e1:=x})[j]?=some d':=w1
  rw [hHk] at w1'
  by_cases hkj:k=j
  ·rw [if_pos hkj] at w1'; injection w1' with w1'; subst w1'
   exact Or.inr ⟨hkj.symm,rfl,hd,w2,w3⟩
  ·rw [if_neg hkj] at w1'; exact Or.inl ⟨fun e=>hkj e.symm,w1',w2,w3⟩
 have hli:∀(i j:Nat),j∈listAt S i→j∈listAt (moveS S k d l x) i:=fun i j hj=>by
  unfold listAt moveS at *
  by_cases hi:i=idxN x
  ·subst hi
   rw [List.getElem?_set_self (by rw [hv.wf.ll]; exact hxlt)]
   exact List.mem_append_left _ hj
  ·rw [List.getElem?_set_ne (fun e=>hi e.symm)]; exact hj
 have hlx:k∈listAt (moveS S k d l x) (idxN x):=by
  unfold listAt moveS
  rw [List.getElem?_set_self (by rw [hv.wf.ll]; exact hxlt)]
  exact List.mem_append_right _ (List.mem_singleton.2 rfl)
 refine ⟨h.h1,h.hl,h.ent,h.lv,fun j d' hw=>?_,fun j d' hw hl=>?_,fun j d' hw u hu hul=>?_,fun j d' hw=>?_,fun _ j d' hw hj hl=>?_,fun h=>by cases h⟩
 ·rcases hW j d' hw with ⟨_,w⟩ | ⟨_,rfl,w⟩
  ·exact h.ey j d' w
  ·exact ⟨hom,x1,Ne.symm x2⟩
 ·rcases hW j d' hw with ⟨hne,w⟩ | ⟨_,rfl,w⟩
  ·have:=h.m0 j d' w hl
   rw [List.cons_append,List.mem_cons] at this
   exact this.resolve_left hne
  ·rcases hl with hl | hl
   ·exact absurd hl.symm o2
   ·exact absurd hl.symm x3
 ·rcases hW j d' hw with ⟨_,w⟩ | ⟨hjk,rfl,w⟩
  ·exact hli _ _ (h.m1 j d' w u hu hul)
  ·subst hjk
   rcases hu with hu | hu
   ·have hu':u=other d l:=hu
    subst hu'
    exact hli _ _ (h.m1 j d w _ o1 hul)
   ·have hu':u=x:=hu
    subst hu'; exact hlx
 ·rcases hW j d' hw with ⟨_,w⟩ | ⟨hjk,rfl,w⟩
  ·exact h.ob j d' w
  ·refine ⟨fun p f hp hf hl=>?_,fun p f hp hf hl=>?_⟩
   ·have hob:Ob S (S.head - 1) (other d l) l:=by
     have:=h.ob k d w
     rcases o1 with o1 | o1
     ·have o4':d.e1=l:=o4.resolve_right fun q=>e3 (o1.symm.trans q.symm)
      rw [o1]; have:=this.1; rw [o4'] at this; exact this
     ·have o3':d.e0=l:=o3.resolve_right fun q=>e3 (q.trans o1)
      rw [o1]; have:=this.2; rw [o3'] at this; exact this
    obtain ⟨g,hg,hgl,_⟩:=hob p f hp hf hl
    exact (no_both hs hem hg (by rw [hel,hgl])).elim
   ·have hl':f.lit=-x:=hl
    have:=(vl_mem hs (List.mem_of_getElem? hf)).2
    rw [hl',Int.neg_neg] at this
    omega
 ·rcases hW j d' hw with ⟨hne,w⟩ | ⟨_,rfl,w⟩
  ·exact h.oo rfl j d' w (by simp only [List.mem_cons,not_or]; exact ⟨hne,hj⟩) hl
  ·rcases hl with hl | hl
   ·exact absurd hl.symm o2
   ·exact absurd hl.symm x3
theorem Vw.step (hv:VI l S (k :: todo) stay) (hs:StE S) (h:Vw l S (k :: todo) stay ok):Vw l (vstep l (S,stay,ok) k).1 todo (vstep l (S,stay,ok) k).2.1 (vstep l (S,stay,ok) k).2.2:=by
 obtain ⟨d,hd,h0,h1,hne,hw⟩:=hv.td k (by simp)
 obtain ⟨e,he,hel⟩:=h.ent
 have hem:=List.mem_of_getElem? he
 obtain ⟨o1,o2,o3,o4⟩:=other_of hw hne
 have ho:other d l∈d.ls:=by
  rcases o1 with o1 | o1<;>rw [o1]
  ·exact h0
  ·exact h1
 have hl:l∈d.ls:=by rcases hw with hw | hw<;>rw [hw]; exact h0; exact h1
 unfold vstep
 dsimp only
 rw [hd]
 dsimp only
 by_cases hg:d.gone=true
 ·rw [if_pos hg]; exact h.gone hd hg
 rw [if_neg hg]
 have hg':d.gone=false:=by simpa using hg
 cases ok with
 | false=>rw [if_pos rfl]; exact h.stays fun h=>by cases h
 | true=>
  rw [if_neg (by decide)]
  split
  ·rename_i x hx; exact Vw.move hv hs h hd hx
  ·rename_i hgo
   split
   ·rename_i hlt
    exact h.bad hd hg' (false_of hgo hlt ⟨e,hem,hel⟩) hl
   ·split
    ·exact h.put hd _
    ·rename_i hn1 hn2
     refine h.stays fun _ d' hw' _=>?_
     have:=hw'.1
     rw [hd] at this; injection this with this; subst this
     exact vl_pos (by rcases vl_cases S (other d l) with q | q | q<;>omega)
theorem Vw.fold:∀(todo:List Nat) (S:ES) (stay:List Nat) (ok:Bool),VI l S todo stay→StE S→Vw l S todo stay ok→Vw l (todo.foldl (vstep l) (S,stay,ok)).1 [] (todo.foldl (vstep l) (S,stay,ok)).2.1 (todo.foldl (vstep l) (S,stay,ok)).2.2
 | [],S,stay,ok,hv,hs,h=>h
 | k :: todo,S,stay,ok,hv,hs,h=>Vw.fold todo _ _ _ hv.step (st_vstep hv hs) (Vw.step hv hs h)
end
end Go.Proofs.YtmhjehodfggleaaGreat.Eng

/- An Engine in plain: what holds of watched clauses, through a spread. -/

set_option linter.unusedVariables false
set_option linter.unusedSimpArgs false
set_option linter.unusedSectionVars false
set_option maxRecDepth 100000
namespace Go.Proofs.YtmhjehodfggleaaGreat.Eng
open Go Go.Proofs.YtmhjehodfggleaaGreat.Vc Go.Proofs.YtmhjehodfggleaaGreat.T
open Go.Proofs.YtmhjehodfggleaaGreat.Trail (E St ownB upto freeA)
open Go.Proofs.YtmhjehodfggleaaGreat.Apart (getE)
theorem Vw.start {S:ES} (hw:WfE S) (hs:StE S) (h:Iw S S.head) {e:E} (he:S.R[S.head]?=some e):Vw (-e.lit) {S with head:=S.head+1,lists:=S.lists.set (idxN (-e.lit)) []} (listAt S (idxN (-e.lit))) [] true:=by
 have hlt:=(List.getElem?_eq_some_iff.1 he).1
 have hwl:Wi S.nv (-e.lit):=wi_neg (own_wi (hs.own e (List.mem_of_getElem? he)))
 refine ⟨Nat.le_add_left _ _,hlt,⟨e,he,by omega⟩,h.lv,h.ey,fun k d hd hl=>?_,fun k d hd u hu hne=>?_,h.ob,fun _ k d hd hk hl=>absurd (h.mm k d hd _ hl) hk,fun h=>by cases h⟩
 ·rw [List.append_nil]; exact h.mm k d hd _ hl
 ·have hk:=h.mm k d hd u hu
  have hu':Wi S.nv u:=by
   obtain ⟨e0,e1,_⟩:=h.ey k d hd
   rcases hu with hu | hu<;>rw [hu]
   ·exact (hw.hl k d hd.1).1 _ e0
   ·exact (hw.hl k d hd.1).1 _ e1
  show k∈(S.lists.set (idxN (-e.lit)) [])[idxN u]?.getD []
  rw [List.getElem?_set_ne (fun q=>hne (idxN_inj hw.nv hwl hu' q).symm)]; exact hk
theorem Vw.done {S:ES} {l:Int} {stay:List Nat} {ok:Bool} (hv:VI l S [] stay) (hs:StE S) (h:Vw l S [] stay ok):Iw {S with lists:=S.lists.set (idxN l) stay} (if ok=true then S.head else S.head - 1):=by
 obtain ⟨e,he,hel⟩:=h.ent
 have h1:=h.h1
 have hlt:=idxN_lt hv.hlw
 refine ⟨by split<;>simp,h.hl,fun p f hp hf=>h.lv p f (by split at hp<;>omega) hf,h.ey,fun k d hd u hu=>?_,fun k d hd=>?_⟩
 ·have hu':Wi S.nv u:=by
   obtain ⟨e0,e1,_⟩:=h.ey k d hd
   rcases hu with hu | hu<;>rw [hu]
   ·exact (hv.wf.hl k d hd.1).1 _ e0
   ·exact (hv.wf.hl k d hd.1).1 _ e1
  show k∈(S.lists.set (idxN l) stay)[idxN u]?.getD []
  by_cases hul:u=l
  ·subst hul
   rw [List.getElem?_set_self (by rw [hv.wf.ll]; exact hlt)]
   have:=h.m0 k d hd hu
   rwa [List.nil_append] at this
  ·rw [List.getElem?_set_ne (fun q=>hul (idxN_inj hv.wf.nv hv.hlw hu' q).symm)]
   exact h.m1 k d hd u hu hul
 ·have hob:=h.ob k d hd
  cases ok with
  | false=>rw [if_neg (by decide)]; exact hob
  | true=>
   rw [if_pos rfl]
   have key:∀u o,(u=d.e0∨u=d.e1)→(u=l→other d l=o)→Ob S (S.head - 1) u o→Ob S S.head u o:=fun u o hu ho hb p f hp hf hfl=>by
    by_cases hp1:p<S.head - 1
    ·exact hb p f hp1 hf hfl
    ·have:p=S.head - 1:=by omega
     subst this
     rw [he] at hf; injection hf with hf; subst hf
     have hul:u=l:=by omega
     have hl2:l=d.e0∨l=d.e1:=by rw [←hul]; exact hu
     obtain ⟨g,hg,hgl⟩:=h.oo rfl k d hd (by simp) hl2
     refine ⟨g,hg,hgl.trans (ho hul),?_⟩
     rw [h.lv _ e (Nat.le_refl _) he]
     exact (hs.lvl g hg).2
   obtain ⟨_,_,hne⟩:=h.ey k d hd
   exact ⟨key _ _ (Or.inl rfl) (fun q=>by unfold other; rw [if_pos q]) hob.1,key _ _ (Or.inr rfl) (fun q=>by unfold other; rw [if_neg (fun q'=>hne (q'.trans q.symm))]) hob.2⟩
theorem Iw.visit {S:ES} (hw:WfE S) (hs:StE S) (h:Iw S S.head) {e:E} (he:S.R[S.head]?=some e) :
  ((visit {S with head:=S.head+1} (-e.lit)).2=true→Iw (visit {S with head:=S.head+1} (-e.lit)).1 (S.head+1))∧
  ((visit {S with head:=S.head+1} (-e.lit)).2=false→Iw (visit {S with head:=S.head+1} (-e.lit)).1 S.head∧Cl (visit {S with head:=S.head+1} (-e.lit)).1):=by
 have hwl:Wi S.nv (-e.lit):=wi_neg (own_wi (hs.own e (List.mem_of_getElem? he)))
 have hw':WfE {S with head:=S.head+1}:=hw.self (S.head+1) S.rest S.clash S.dead S.bad
 have hv:=VI.start (S:={S with head:=S.head+1}) hw' hwl
 have hV:=Vw.fold (l:=-e.lit) _ _ _ _ hv hs (Vw.start hw hs h he)
 have hv2:=vi_fold _ _ _ true hv
 have hs2:=st_fold _ _ _ true hv hs
 have hd:=Vw.done hv2 hs2 hV
 have hf:=fr_fold (-e.lit) (listAt {S with head:=S.head+1} (idxN (-e.lit))) ({S with head:=S.head+1,lists:=S.lists.set (idxN (-e.lit)) []},[],true)
 have hh:(vloop {S with head:=S.head+1} (-e.lit)).1.head=S.head+1:=hf.head
 unfold Eng.visit
 refine ⟨fun ho=>?_,fun ho=>?_⟩
 ·have ho':(vloop {S with head:=S.head+1} (-e.lit)).2.2=true:=ho
  have hd':Iw _ (if (vloop {S with head:=S.head+1} (-e.lit)).2.2=true then (vloop {S with head:=S.head+1} (-e.lit)).1.head else (vloop {S with head:=S.head+1} (-e.lit)).1.head - 1):=hd
  rw [if_pos ho',hh] at hd'
  exact hd'
 ·have ho':(vloop {S with head:=S.head+1} (-e.lit)).2.2=false:=ho
  have hd':Iw _ (if (vloop {S with head:=S.head+1} (-e.lit)).2.2=true then (vloop {S with head:=S.head+1} (-e.lit)).1.head else (vloop {S with head:=S.head+1} (-e.lit)).1.head - 1):=hd
  rw [if_neg (by rw [ho']; decide),hh] at hd'
  exact ⟨hd',hV.cl ho'⟩
theorem spreadN_iw:∀(n:Nat) (S:ES),WfE S→StE S→Iw S S.head→S.nv≤n+S.head→((spreadN n S).2=true→Iw (spreadN n S).1 (spreadN n S).1.head∧(spreadN n S).1.head=(spreadN n S).1.R.length)∧((spreadN n S).2=false→∃q,Iw (spreadN n S).1 q∧Cl (spreadN n S).1)
 | 0,S,hw,hs,h,hn=>⟨fun _=>⟨h,by have:=hs.len; have:=h.hl; show S.head=S.R.length; omega⟩,fun h=>by cases h⟩
 | n+1,S,hw,hs,h,hn=>by
  unfold spreadN
  cases he:S.R[S.head]? with
  | none=>
   refine ⟨fun _=>⟨h,?_⟩,fun h=>by cases h⟩
   have:=List.getElem?_eq_none_iff.1 he
   have:=h.hl
   show S.head=S.R.length
   omega
  | some e=>
   dsimp only
   have hwi:Wi S.nv (-e.lit):=wi_neg (own_wi (hs.own e (List.mem_of_getElem? he)))
   have hw':WfE {S with head:=S.head+1}:=hw.self (S.head+1) S.rest S.clash S.dead S.bad
   obtain ⟨v1,v2⟩:=Iw.visit hw hs h he
   have hf:=fr_visit {S with head:=S.head+1} (-e.lit)
   have hhd:(visit {S with head:=S.head+1} (-e.lit)).1.head=S.head+1:=hf.head
   have hnv:(visit {S with head:=S.head+1} (-e.lit)).1.nv=S.nv:=hf.nv
   split
   ·rename_i ho
    exact spreadN_iw n _ (hw'.visit hwi) (st_visit (S:={S with head:=S.head+1}) hw' hs hwi) (by rw [hhd]; exact v1 ho) (by rw [hhd,hnv]; omega)
   ·rename_i ho
    exact ⟨fun h=>absurd h ho,fun h=>⟨_,v2 h⟩⟩
def T0 (S:ES) (d:Hd):Prop:=∃x∈d.ls,∃f∈S.R,f.lit=x∧f.lv=0
theorem T0.fr {S S':ES} (hf:Fr S S') {k:Nat} {d':Hd} (hd:S'.H[k]?=some d') (h:∀d,S.H[k]?=some d→T0 S d):T0 S' d':=by
 obtain ⟨d,h1,h2,_⟩:=hf.hls k d' hd
 obtain ⟨x,hx,f,hf1,hf2⟩:=h d h1
 obtain ⟨X,hX⟩:=hf.R
 exact ⟨x,by rw [h2]; exact hx,f,by rw [hX]; exact List.mem_append_left _ hf1,hf2⟩
theorem Iw.put {S:ES} {q:Nat} (h:Iw S q) (x r:Int):Iw (putS S x r) q:=
 ⟨h.hd,by show S.head≤(S.R++[_]).length; rw [List.length_append]; have:=h.hl; omega,put_lv h.lv _ _,h.ey,h.mm,fun k d hd=>⟨(h.ob k d hd).1.push (by have:=h.hd; have:=h.hl; omega),(h.ob k d hd).2.push (by have:=h.hd; have:=h.hl; omega)⟩⟩
theorem Iw.bad {S:ES} {q:Nat} (h:Iw S q) (x:Int):Iw {S with bad:=x} q:=⟨h.hd,h.hl,h.lv,h.ey,h.mm,h.ob⟩
theorem single_iw {S:ES} (hs:StE S) {k:Nat} {d:Hd} (hL:S.L=[]) (hd:S.H[k]?=some d) (hg:d.gone=false) (hl:d.ls.length<2) {q:Nat} (h:Iw S q) :
  Iw (single S d).1 q∧((single S d).2=true→T0 (single S d).1 d)∧((single S d).2=false→Cl (single S d).1):=by
 have l0:∀e∈S.R,e.lv=0:=fun e he=>by have:=hs.lvl e he; rw [hL] at this; simp at this; omega
 unfold single
 split
 ·rename_i l hf
  have hl:=List.mem_of_find?_eq_some hf
  split
  ·rename_i h1
   obtain ⟨e,he,hel⟩:=vl_pos h1
   exact ⟨h,fun _=>⟨l,hl,e,he,hel,l0 e he⟩,fun h=>by cases h⟩
  ·exact ⟨h.put _ _,fun _=>⟨l,hl,⟨l,S.L.length,d.at_⟩,List.mem_append_right _ (List.mem_singleton.2 rfl),rfl,by rw [hL]; rfl⟩,fun h=>by cases h⟩
 ·rename_i hf
  refine ⟨h.bad _,(fun h=>by cases h),fun _=>⟨k,d,hd,hg,rfl,fun x hx=>vl_neg (S:=S) ?_,Or.inl hL⟩⟩
  have:=List.find?_eq_none.1 hf x hx
  simp only [decide_eq_true_eq] at this
  rcases vl_cases S x with q | q | q<;>omega
theorem sfold_iw {q:Nat} : ∀(ids:List Nat) (acc:ES×Bool),WfE acc.1→StE acc.1→acc.1.L=[]→acc.2=true→Iw acc.1 q→(∀k∈ids,k<acc.1.H.length)→(∀k∈ids,∀d,acc.1.H[k]?=some d→d.ls.length<2∧d.gone=false)→
  Iw (ids.foldl sstep acc).1 q∧((ids.foldl sstep acc).2=true→∀k∈ids,∀d,(ids.foldl sstep acc).1.H[k]?=some d→T0 (ids.foldl sstep acc).1 d)∧((ids.foldl sstep acc).2=false→Cl (ids.foldl sstep acc).1)
 | [],acc,hw,hs,hL,ht,h,hk,hsh=>⟨h,(fun _ k hk=>by cases hk),fun hh=>by rw [List.foldl_nil,ht] at hh; cases hh⟩
 | k :: ids,acc,hw,hs,hL,ht,h,hk,hsh=>by
  rw [List.foldl_cons]
  obtain ⟨d,hd⟩:=getE (hk k (by simp))
  obtain ⟨a,_,_,b⟩:=hw.hl k d hd
  obtain ⟨hl,hg⟩:=hsh k (by simp) d hd
  obtain ⟨s1,s2,s3⟩:=single_iw hs hL hd hg hl h
  have e1:sstep acc k=single acc.1 d:=by
   unfold sstep
   rw [if_neg (by rw [ht]; decide),hd]
  have f1:=fr_single acc.1 d
  rw [e1]
  by_cases ho:(single acc.1 d).2=true
  ·obtain ⟨r1,r2,r3⟩:=sfold_iw ids (single acc.1 d) (hw.single d) (st_single hs a b) (f1.L.trans hL) ho s1 (fun j hj=>by rw [f1.hlen]; exact hk j (List.mem_cons_of_mem _ hj)) (fun j hj d' hd'=>by
    obtain ⟨d0,h0,g1,_,g2⟩:=f1.hls j d' hd'
    rw [g1,g2]; exact hsh j (List.mem_cons_of_mem _ hj) d0 h0)
   refine ⟨r1,fun hok j hj d' hd'=>?_,r3⟩
   rcases List.mem_cons.1 hj with rfl | hj
   ·refine T0.fr (fr_sfold ids (single acc.1 d)) hd' fun d0 h0=>?_
    obtain ⟨d1,h1,g1,_,_⟩:=f1.hls j d0 h0
    rw [hd] at h1; injection h1 with h1; subst h1
    obtain ⟨x,hx,r⟩:=s2 ho
    exact ⟨x,by rw [g1]; exact hx,r⟩
   ·exact r2 hok j hj d' hd'
  ·have ho':(single acc.1 d).2=false:=by simpa using ho
   have hst:∀(js:List Nat) (a:ES×Bool),a.2=false→js.foldl sstep a=a:=fun js=>by
    induction js with
    | nil=>exact fun a _=>rfl
    | cons j js ih=>exact fun a ha=>by rw [List.foldl_cons,show sstep a j=a by unfold sstep; rw [if_pos ha],ih a ha]
   rw [hst ids _ ho']
   exact ⟨s1,fun h=>absurd h ho,s3⟩
structure Iz (S:ES):Prop extends Inv S where
 iw:∃q,Iw S q∧(S.clash=false→S.dead=false→q=S.head)
 un:∀k∈S.learnts,∀d,S.H[k]?=some d→d.ls.length<2→T0 S d
 ss:(S.L≠[]∨S.rest=true)→∀k∈S.short,∀d,S.H[k]?=some d→T0 S d
 re:S.rest=true→S.clash=false∧S.dead=false∧S.head=S.R.length
 kl:S.clash=true→S.dead=false∧Cl S
theorem Iz.spread {S:ES} (h:Iz S):Iz (spread S).1:=by
 have hI:=h.toInv.spread
 by_cases h0:(S.dead || S.clash)=true
 ·have:Eng.spread S=(S,false):=by unfold Eng.spread; rw [if_pos h0]
  rw [this]; exact h
 have hd:S.dead=false:=by cases h1:S.dead<;>simp_all
 have hc:S.clash=false:=by cases h1:S.clash<;>simp_all
 obtain ⟨q,hq,hq2⟩:=h.iw
 rw [hq2 hc hd] at hq
 -- the short clauses
 have hsh:WfE (shorts S).1∧StE (shorts S).1∧Fr S (shorts S).1∧Iw (shorts S).1 (shorts S).1.head∧((shorts S).2=true→∀k∈S.short,∀d,(shorts S).1.H[k]?=some d→T0 (shorts S).1 d)∧((shorts S).2=false→Cl (shorts S).1):=by
  unfold shorts
  split
  ·rename_i hL
   have hL':S.L=[]:=List.eq_nil_of_length_eq_zero hL
   have h1:=sfold_inv S.short (S,true) h.toWfE h.st
   obtain ⟨a,b,c⟩:=sfold_iw (q:=S.head) S.short (S,true) h.toWfE h.st hL' rfl hq h.sh (fun k hk d hd=>⟨h.s1 k hk d hd,h.sg k hk d hd⟩)
   have hf:=fr_sfold S.short (S,true)
   exact ⟨h1.1,h1.2,hf,by rw [hf.head]; exact a,b,c⟩
  ·rename_i hL
   exact ⟨h.toWfE,h.st,Fr.refl _,hq,fun _=>h.ss (Or.inl fun e=>hL (by rw [e]; rfl)),fun h=>by cases h⟩
 obtain ⟨a1,a2,a3,a4,a5,a6⟩:=hsh
 obtain ⟨b1,b2,b3⟩:=spreadN_inv S.nv (shorts S).1 a1 a2
 obtain ⟨c1,c2⟩:=spreadN_iw S.nv (shorts S).1 a1 a2 a4 (by rw [a3.nv]; omega)
 have hdd:(Eng.spread S).1.dead=S.dead:=hI.2.dead
 have hLL:(Eng.spread S).1.L=S.L:=hI.2.L
 have hsr:(Eng.spread S).1.short=S.short:=hI.2.short
 have hle:(Eng.spread S).1.learnts=S.learnts:=hI.2.learnts
 have un:∀k∈(Eng.spread S).1.learnts,∀d,(Eng.spread S).1.H[k]?=some d→d.ls.length<2→T0 (Eng.spread S).1 d:=fun k hk d hd hl=>by
  rw [hle] at hk
  refine T0.fr hI.2 hd fun d0 h0=>?_
  obtain ⟨d1,h1,g1,_⟩:=hI.2.hls k d hd
  have:d1=d0:=by have h0':S.H[k]?=some d0:=h0; have h1':S.H[k]?=some d1:=h1; rw [h0'] at h1'; injection h1' with h1'; exact h1'.symm
  subst this
  exact h.un k hk _ h0 (by rw [←g1]; exact hl)
 have hss:S.L≠[]→∀k∈(Eng.spread S).1.short,∀d,(Eng.spread S).1.H[k]?=some d→T0 (Eng.spread S).1 d:=fun hne k hk d hd=>by
  rw [hsr] at hk
  exact T0.fr hI.2 hd fun d0 h0=>h.ss (Or.inl hne) k hk d0 h0
 refine ⟨hI.1,?_,un,?_,?_,?_⟩
 all_goals (
  unfold Eng.spread at hss ⊢
  rw [if_neg h0] at hss ⊢
  dsimp only at hss ⊢
  by_cases o1:(shorts S).2=true
  ·rw [if_pos o1] at hss ⊢
   by_cases o2:(spreadN S.nv (shorts S).1).2=true
   ·obtain ⟨e1,e2⟩:=c1 o2
    first
    | exact ⟨_,⟨e1.hd,e1.hl,e1.lv,e1.ey,e1.mm,e1.ob⟩,fun _ _=>rfl⟩
    | exact fun _=>⟨by rw [o2]; rfl,b3.dead.trans (a3.dead.trans hd),e2⟩
    | exact fun hh=>absurd hh (by rw [o2]; decide)
    | exact fun _ k hk d hd=>T0.fr b3 hd fun d0 h0=>a5 o1 k (by
      have hk':k∈(spreadN S.nv (shorts S).1).1.short:=hk
      rw [b3.short] at hk'
      have hk':k∈(shorts S).1.short:=hk'
      rwa [a3.short] at hk') d0 h0
   ·have o2':(spreadN S.nv (shorts S).1).2=false:=by simpa using o2
    obtain ⟨q,e1,e2⟩:=c2 o2'
    first
    | exact ⟨q,⟨e1.hd,e1.hl,e1.lv,e1.ey,e1.mm,e1.ob⟩,fun hh=>absurd hh (by rw [o2']; decide)⟩
    | exact fun hh=>absurd hh o2
    | exact fun _=>⟨b3.dead.trans (a3.dead.trans hd),e2⟩
    | exact fun hh=>hss (hh.elim (fun hh e=>hh (b3.L.trans (a3.L.trans e))) fun hh=>absurd hh o2)
  ·have o1':(shorts S).2=false:=by simpa using o1
   rw [if_neg o1] at hss ⊢
   first
   | exact ⟨_,⟨a4.hd,a4.hl,a4.lv,a4.ey,a4.mm,a4.ob⟩,fun _ _=>rfl⟩
   | exact fun hh=>absurd hh o1
   | exact fun _=>⟨a3.dead.trans hd,a6 o1'⟩
   | exact fun hh=>hss (hh.elim (fun hh e=>hh (a3.L.trans e)) fun hh=>absurd hh o1))
end Go.Proofs.YtmhjehodfggleaaGreat.Eng

/- An Engine in plain: all that holds of it, from its beginning, through a decision, a way back, and Forget. -/

set_option linter.unusedVariables false
set_option linter.unusedSimpArgs false
set_option linter.unusedSectionVars false
set_option maxRecDepth 100000
namespace Go.Proofs.YtmhjehodfggleaaGreat.Eng
open Go Go.Proofs.YtmhjehodfggleaaGreat.Vc Go.Proofs.YtmhjehodfggleaaGreat.T
open Go.Proofs.YtmhjehodfggleaaGreat.Trail (E St ownB upto freeA)
open Go.Proofs.YtmhjehodfggleaaGreat.Lits (fl fl_iff Td Srt)
open Go.Proofs.YtmhjehodfggleaaGreat.Apart (getE)
theorem push_keep (S:ES) (l:Int) (k:Nat) {i j:Nat} (h:j∈listAt S i):j∈listAt (pushL S l k) i:=by
 show j∈(S.lists.set (idxN l) (listAt S (idxN l)++[k]))[i]?.getD []
 rw [List.getElem?_set]
 split
 ·rename_i hi
  subst hi
  split
  ·exact List.mem_append_left _ h
  ·rename_i hlt
   have:S.lists[idxN l]?=none:=List.getElem?_eq_none_iff.2 (by omega)
   unfold listAt at h; rw [this] at h; exact h
 ·exact h
theorem push_new {S:ES} {l:Int} (k:Nat) (h:idxN l<S.lists.length):k∈listAt (pushL S l k) (idxN l):=by
 show k∈(S.lists.set (idxN l) (listAt S (idxN l)++[k]))[idxN l]?.getD []
 rw [List.getElem?_set_self h]
 exact List.mem_append_right _ (List.mem_singleton.2 rfl)
def Em (S:ES) (ex:Nat→Prop):Prop:=∀k d,Wd S k d→¬ex k→(d.e0∈d.ls∧d.e1∈d.ls∧d.e0≠d.e1)∧∀u,u=d.e0∨u=d.e1→k∈listAt S (idxN u)
theorem Em.watch {S:ES} {k:Nat} {d:Hd} {a c:Int} (h:Em S (·=k)) (hd:S.H[k]?=some d) (ha:a∈d.ls) (hc:c∈d.ls) (hne:a≠c) (hla:idxN a<S.lists.length) (hlc:idxN c<S.lists.length):Em (watchS S k d a c) (fun _=>False):=by
 have hkl:=(List.getElem?_eq_some_iff.1 hd).1
 have up:∀{i j:Nat},j∈listAt S i→j∈listAt (watchS S k d a c) i:=fun hj=>push_keep _ _ _ (push_keep _ _ _ hj)
 intro j d' hw _
 have hw1:(S.H.set k {d with e0:=a,e1:=c})[j]?=some d':=hw.1
 rw [List.getElem?_set] at hw1
 by_cases hkj:k=j
 ·subst hkj
  rw [if_pos rfl,if_pos hkl] at hw1
  injection hw1 with hw1; subst hw1
  refine ⟨⟨ha,hc,hne⟩,fun u hu=>?_⟩
  rcases hu with hu | hu
  ·have:u=a:=hu
   subst this
   exact push_keep _ _ _ (push_new k hla)
  ·have:u=c:=hu
   subst this
   exact push_new k (by show _<(S.lists.set _ _).length; rw [List.length_set]; exact hlc)
 ·rw [if_neg hkj] at hw1
  obtain ⟨g1,g2⟩:=h j d' ⟨hw1,hw.2.1,hw.2.2⟩ (fun e=>hkj e.symm)
  exact ⟨g1,fun u hu=>up (g2 u hu)⟩
theorem Em.snoc {S S':ES} {d:Hd} (h:Em S (fun _=>False)) (hH:S'.H=S.H++[d]) (hl:S'.lists=S.lists):Em S' (·=S.H.length):=by
 intro j d' hw hne
 have hw1:=hw.1
 rw [hH] at hw1
 rcases snoc_get hw1 with ⟨_,h1⟩ | ⟨e,_⟩
 ·obtain ⟨g1,g2⟩:=h j d' ⟨h1,hw.2.1,hw.2.2⟩ (fun e=>e)
  exact ⟨g1,fun u hu=>by have:=g2 u hu; unfold listAt at this ⊢; rw [hl]; exact this⟩
 ·exact absurd e hne
theorem Em.addC {S:ES} (h:Em S (fun _=>False)) (hw:WfS S) {c:List Int} (hc:∀x∈c,Wi S.nv x):Em (addC S c) (fun _=>False):=by
 have hf:∀x∈c,fl x=true:=fun x hx=>wi_fl hw.nv (hc x hx)
 have hT:=tidyL_td hf
 have hwt:∀x∈tidyL c,Wi S.nv x:=fun x hx=>hc x ((hT.mem x).1 hx).1
 have hget:(S.H++[tidHd S c])[S.H.length]?=some (tidHd S c):=by rw [List.getElem?_append_right (Nat.le_refl _),Nat.sub_self]; rfl
 unfold Eng.addC
 split
 ·exact h
 ·split
  ·rename_i hlt
   have h1:=Em.snoc (S':={putAr S c with H:=S.H++[tidHd S c],short:=S.short++[S.H.length]}) h rfl rfl
   intro j d' hwd _
   refine h1 j d' hwd fun e=>?_
   have hw1:(S.H++[tidHd S c])[j]?=some d':=hwd.1
   rw [e,hget] at hw1
   injection hw1 with hw1
   have:=hwd.2.2
   rw [←hw1] at this
   have hlt':(tidHd S c).ls.length<2:=hlt
   omega
  ·rename_i hlt
   obtain ⟨a,b,rest,e⟩:∃a b rest,tidyL c=a :: b :: rest:=by
    match htl:tidyL c with
    | []=>rw [htl] at hlt; simp at hlt
    | [x]=>rw [htl] at hlt; simp at hlt
    | a :: b :: rest=>exact ⟨a,b,rest,rfl⟩
   have ha:a∈tidyL c:=by rw [e]; simp
   have hb:b∈tidyL c:=by rw [e]; simp
   have hnd:=nodup_srt hT.srt
   rw [e,List.nodup_cons] at hnd
   have e1:(tidyL c).headD 0=a:=by rw [e]; rfl
   have e2:(tidyL c).tail.headD 0=b:=by rw [e]; rfl
   rw [e1,e2]
   exact Em.watch (S:={putAr S c with H:=S.H++[tidHd S c]}) (Em.snoc (S':={putAr S c with H:=S.H++[tidHd S c]}) h rfl rfl) hget ha hb (fun q=>hnd.1 (by rw [q]; simp)) (by show _<S.lists.length; rw [hw.ll]; exact idxN_lt (hwt a ha)) (by show _<S.lists.length; rw [hw.ll]; exact idxN_lt (hwt b hb))
theorem newE_iz {nv:Nat} (hnv:nv≤1048576) {css:List (List Int)} (hn:css.length≤1048576) (hl:∀es∈css,es.length≤1048576) (hw:∀es∈css,∀x∈es,Wi nv x):Iz (newE nv css):=by
 have key:∀i,i≤css.length→NI ((css.take i).foldl addC (E0 nv)) i∧((css.take i).foldl addC (E0 nv)).nv=nv∧Em ((css.take i).foldl addC (E0 nv)) (fun _=>False):=fun i=>by
  induction i with
  | zero=>exact fun _=>⟨ni0 hnv,rfl,fun k d hd=>by have:=hd.1; simp [E0] at this⟩
  | succ i ih=>
   intro hi
   obtain ⟨h1,h2,h3⟩:=ih (by omega)
   obtain ⟨es,hes⟩:=getE (show i<css.length by omega)
   have hem:=List.mem_of_getElem? hes
   rw [take_snocN hes,List.foldl_append]
   obtain ⟨_,r0,_,_⟩:=addC_ar ((css.take i).foldl addC (E0 nv)) es
   exact ⟨h1.step (by rw [h2]; exact hw es hem) (hl es hem) (by omega),r0.trans h2,h3.addC h1.wf (by rw [h2]; exact hw es hem)⟩
 have hk:=(key css.length (Nat.le_refl _)).2.2
 rw [List.take_length] at hk
 obtain ⟨_,_,hR,hL,hLe,_,hhd,hre,hcl,hde⟩:=newE_ni hnv hn hl hw
 refine ⟨newE_inv hnv hn hl hw,⟨0,⟨Nat.zero_le _,by rw [hhd]; exact Nat.zero_le _,fun p e _ he=>by rw [hR] at he; simp at he,fun k d hd=>(hk k d hd fun h=>h).1,fun k d hd=>(hk k d hd fun h=>h).2,fun k d hd=>⟨fun p e hp=>by omega,fun p e hp=>by omega⟩⟩,fun _ _=>hhd.symm⟩,(fun k hk=>by rw [hLe] at hk; cases hk),fun hh=>?_,(fun hh=>by rw [hre] at hh; cases hh),fun hh=>by rw [hcl] at hh; cases hh⟩
 rcases hh with hh | hh
 ·exact absurd hL hh
 ·rw [hre] at hh; cases hh
theorem upto_mem {k:Int} {R:List E} {f:E} : f∈upto k R↔f∈R∧f.lv≤k:=by unfold upto; rw [List.mem_filter,decide_eq_true_eq]
theorem T0.cut {S:ES} {d:Hd} (h:T0 S d) {k:Int} (hk:0≤k):T0 (cutS S k) d:=by
 obtain ⟨x,hx,f,hf,e1,e2⟩:=h
 exact ⟨x,hx,f,upto_mem.2 ⟨hf,by omega⟩,e1,e2⟩
theorem upto_lt {S:ES} (hs:StE S) {k:Int} (hk0:0≤k) (hk:k<S.L.length) {q:Nat} (hlv:∀(p:Nat) (e:E),q≤p→S.R[p]?=some e→e.lv=S.L.length):(upto k S.R).length≤q:=by
 rcases Nat.lt_or_ge q (upto k S.R).length with h | h
 ·exfalso
  obtain ⟨e,he⟩:=getE h
  have h1:=upto_mem.1 (List.mem_of_getElem? he)
  rw [(upto_take hs hk0 (Int.le_of_lt hk)).1,List.getElem?_take] at he
  split at he
  ·have:=hlv q e (Nat.le_refl _) he; omega
  ·cases he
 ·exact h
theorem Iw.cut {S:ES} {q:Nat} (hs:StE S) (h:Iw S q) {k:Int} (hk0:0≤k) (hk:k≤S.L.length) (hq:k<S.L.length∨q=S.head):Iw (cutS S k) (cutS S k).head:=by
 have hut:=upto_take hs hk0 hk
 have hqq:(cutS S k).head≤q∧(∀(p:Nat) (e:E),(cutS S k).head≤p→(cutS S k).R[p]?=some e→e.lv=(cutS S k).L.length):=by
  rcases hq with hq | hq
  ·have h1:=upto_lt hs hk0 hq h.lv
   refine ⟨Nat.le_trans (Nat.min_le_right _ _) h1,fun p e hp he=>?_⟩
   have:(upto k S.R).length≤p:=by
    have h2:(cutS S k).head=(upto k S.R).length:=Nat.min_eq_right (Nat.le_trans h1 h.hd)
    omega
   rw [show (cutS S k).R=upto k S.R from rfl,List.getElem?_eq_none_iff.2 this] at he
   cases he
  ·subst hq
   refine ⟨Nat.min_le_left _ _,fun p e hp he=>?_⟩
   by_cases hkl:k<S.L.length
   ·have h1:=upto_lt hs hk0 hkl h.lv
    have:(upto k S.R).length≤p:=by
     have h2:(cutS S k).head=(upto k S.R).length:=Nat.min_eq_right h1
     omega
    rw [show (cutS S k).R=upto k S.R from rfl,List.getElem?_eq_none_iff.2 this] at he
    cases he
   ·have hkk:(S.L.length:Int)≤k:=by omega
    obtain ⟨_,u2⟩:=Trail.above_top hs hkk
    have e1:(cutS S k).R=S.R:=u2
    have e2:(cutS S k).head=S.head:=by show min S.head (upto k S.R).length=_; rw [u2]; exact Nat.min_eq_left h.hl
    have e3:(cutS S k).L=S.L:=by show S.L.take k.toNat=_; exact List.take_of_length_le (by omega)
    rw [e1] at he; rw [e2] at hp; rw [e3]
    exact h.lv p e hp he
 refine ⟨Nat.le_refl _,Nat.min_le_right _ _,hqq.2,h.ey,h.mm,fun j d hd=>?_⟩
 have key:∀u o,Ob S q u o→Ob (cutS S k) (cutS S k).head u o:=fun u o hob p e hp he hl=>by
  have he':(upto k S.R)[p]?=some e:=he
  have hm:=upto_mem.1 (List.mem_of_getElem? he')
  rw [hut.1,List.getElem?_take] at he'
  split at he'
  ·obtain ⟨f,hf,h1,h2⟩:=hob p e (by have:=hqq.1; omega) he' hl
   exact ⟨f,upto_mem.2 ⟨hf,by omega⟩,h1,h2⟩
  ·cases he'
 exact ⟨key _ _ (h.ob j d hd).1,key _ _ (h.ob j d hd).2⟩
theorem Iz.dec {S:ES} (h:Iz S) (l:Int):Iz (decS S l):=by
 have hI:=h.toInv.dec l
 by_cases hA:decA S l=0
 ·have hre:S.rest=true:=by
   unfold decA at hA
   split at hA
   ·cases hA
   ·split at hA
    ·cases hA
    ·rename_i hr; cases hr2:S.rest<;>simp_all
  obtain ⟨hc,hd,hhd⟩:=h.re hre
  obtain ⟨q,hq,hq2⟩:=h.iw
  rw [hq2 hc hd] at hq
  have up:∀d,T0 S d→T0 {S with R:=S.R++[(⟨l,(S.L.length+1:Nat),-1⟩:E)],L:=S.L++[(S.R.length:Int)],rest:=false} d:=fun d ⟨x,hx,f,hf,r⟩=>⟨x,hx,f,List.mem_append_left _ hf,r⟩
  unfold decS at hI ⊢
  rw [if_pos hA] at hI ⊢
  refine ⟨hI,⟨S.head,⟨Nat.le_refl _,by show S.head≤(S.R++[_]).length; rw [List.length_append]; have:=hq.hl; omega,fun p e hp he=>?_,hq.ey,hq.mm,fun j d hw=>?_⟩,fun _ _=>rfl⟩,fun k hk d hd hl=>up d (h.un k hk d hd hl),fun _ k hk d hd=>up d (h.ss (Or.inr hre) k hk d hd),(fun hh=>by cases hh),fun hh=>absurd hh (by rw [show ({S with R:=S.R++[(⟨l,(S.L.length+1:Nat),-1⟩:E)],L:=S.L++[(S.R.length:Int)],rest:=false} : ES).clash=S.clash from rfl,hc]; decide)⟩
  ·rcases snoc_get (show (S.R++[(⟨l,(S.L.length+1:Nat),-1⟩:E)])[p]?=some e from he) with ⟨h1,_⟩ | ⟨_,rfl⟩
   ·omega
   ·show ((S.L.length+1:Nat):Int)=((S.L++[(S.R.length:Int)]).length:Nat)
    rw [List.length_append]; rfl
  ·have key:∀u o,Ob S S.head u o→Ob {S with R:=S.R++[(⟨l,(S.L.length+1:Nat),-1⟩:E)],L:=S.L++[(S.R.length:Int)],rest:=false} S.head u o:=fun u o hob p e hp he hl=>by
    have he':(S.R++[(⟨l,(S.L.length+1:Nat),-1⟩:E)])[p]?=some e:=he
    rw [List.getElem?_append_left (by omega)] at he'
    obtain ⟨f,hf,r⟩:=hob p e hp he' hl
    exact ⟨f,List.mem_append_left _ hf,r⟩
   exact ⟨key _ _ (hq.ob j d hw).1,key _ _ (hq.ob j d hw).2⟩
 ·unfold decS; rw [if_neg hA]; exact h
def restart (S:ES):Int×ES:=if (S.clash || S.dead)=true then (3,S) else (0,{cutS S 0 with rest:=false})
theorem Iz.restart {S:ES} (h:Iz S):Iz (restart S).2:=by
 unfold Eng.restart
 split
 ·exact h
 ·rename_i h0
  have hc:S.clash=false:=by cases h1:S.clash<;>simp_all
  have hd:S.dead=false:=by cases h1:S.dead<;>simp_all
  obtain ⟨q,hq,hq2⟩:=h.iw
  have hI:=h.toInv.cut (k:=0) (by omega) (by omega)
  have hw:=hq.cut h.st (k:=0) (by omega) (by omega) (Or.inr (hq2 hc hd))
  refine ⟨⟨hI.toWF.self _ false S.clash S.dead S.bad,hI.rs.to rfl fun k d hd=>⟨d,hd,rfl,rfl⟩,hI.pl.to rfl fun k d hd=>⟨d,hd,rfl,rfl,rfl⟩,hI.rg,hI.s1,hI.sg,hI.dj⟩,⟨(cutS S 0).head,⟨hw.hd,hw.hl,hw.lv,hw.ey,hw.mm,hw.ob⟩,fun _ _=>rfl⟩,fun k hk d hd hl=>T0.cut (h.un k hk d hd hl) (Int.le_refl _),fun hh=>?_,(fun hh=>by cases hh),fun hh=>?_⟩
  ·rcases hh with hh | hh
   ·exact absurd (show S.L.take 0=[] from rfl) hh
   ·cases hh
  ·have:S.clash=true:=hh
   rw [hc] at this; cases this
theorem forget_rest {S:ES} (i:Int):(forget S i).2=S∨S.rest=true:=by
 unfold forget
 split
 ·exact Or.inl rfl
 ·rename_i h; exact Or.inr (by cases h2:S.rest<;>simp_all)
theorem Iz.forget {S:ES} (h:Iz S) (i:Int):Iz (forget S i).2:=by
 have hI:=h.toInv.forget i
 rcases forget_rest (S:=S) i with e | hre
 ·rw [e]; exact h
 obtain ⟨hc,hd,hhd⟩:=h.re hre
 obtain ⟨q,hq,hq2⟩:=h.iw
 rw [hq2 hc hd] at hq
 unfold Eng.forget at hI ⊢
 split
 ·exact h
 ·rename_i n1
  split
  ·exact h
  ·rename_i n2
   split
   ·exact h
   ·rename_i k hk
    split
    ·exact h
    ·rename_i d hd0
     split
     ·exact h
     ·rename_i n3
      simp only [if_neg n1,if_neg n2,hk,hd0,if_neg n3] at hI
      have hkl:=(List.getElem?_eq_some_iff.1 hd0).1
      have hH:∀(j:Nat) (d':Hd),(S.H.set k {d with gone:=true})[j]?=some d'→∃d0,S.H[j]?=some d0∧d'.ls=d0.ls∧(d'.gone=false→d'=d0):=fun j d' hj=>by
       rw [List.getElem?_set] at hj
       by_cases hkj:k=j
       ·subst hkj
        rw [if_pos rfl,if_pos hkl] at hj
        injection hj with hj; subst hj
        exact ⟨d,hd0,rfl,fun h=>by cases h⟩
       ·rw [if_neg hkj] at hj; exact ⟨d',hj,rfl,fun _=>rfl⟩
      have hW:∀j d',Wd (forgetT S i.toNat k d) j d'→Wd S j d':=fun j d' ⟨w1,w2,w3⟩=>by
       obtain ⟨d0,g1,g2,g3⟩:=hH j d' w1
       have:=g3 w2; subst this
       exact ⟨g1,w2,w3⟩
      have hT:∀j d',(S.H.set k {d with gone:=true})[j]?=some d'→(∀d0,S.H[j]?=some d0→T0 S d0)→T0 (forgetT S i.toNat k d) d':=fun j d' hj hh=>by
       obtain ⟨d0,g1,g2,_⟩:=hH j d' hj
       obtain ⟨x,hx,r⟩:=hh d0 g1
       exact ⟨x,by rw [g2]; exact hx,r⟩
      refine ⟨hI,⟨S.head,⟨hq.hd,hq.hl,hq.lv,fun j d' hw=>hq.ey j d' (hW j d' hw),fun j d' hw=>hq.mm j d' (hW j d' hw),fun j d' hw=>hq.ob j d' (hW j d' hw)⟩,fun _ _=>rfl⟩,fun j hj d' hd' hl=>hT j d' hd' fun d0 h0=>h.un j (List.mem_of_mem_eraseIdx hj) d0 h0 ?_,fun hh j hj d' hd'=>hT j d' hd' fun d0 h0=>h.ss hh j hj d0 h0,fun _=>⟨hc,hd,hhd⟩,fun hh=>?_⟩
      ·obtain ⟨d1,g1,g2,_⟩:=hH j d' hd'
       rw [h0] at g1; injection g1 with g1; rw [g1,←g2]; exact hl
      ·have:S.clash=true:=hh
       rw [hc] at this; cases this
end Go.Proofs.YtmhjehodfggleaaGreat.Eng

/- What follows from clauses and facts, one unit at a time. -/

set_option linter.unusedVariables false
namespace Go.Proofs.YtmhjehodfggleaaGreat.Eng
inductive Der (C:List (List Int)) (K:List Int):Int→Prop
 | fact {l:Int} : l∈K→Der C K l
 | unit {c:List Int} {l:Int} : c∈C→l∈c→(∀x∈c,x≠l→Der C K (-x))→Der C K l
def Clash (C:List (List Int)) (K:List Int):Prop:=∃c∈C,∀x∈c,Der C K (-x)
def Cons (tr:List Int):Prop:=∀l∈tr,-l∉tr
def Closed (C:List (List Int)) (tr:List Int):Prop:=∀c∈C,(∃x∈c,-x∈c)∨(∃x∈c,x∈tr)∨∃x∈c,∃y∈c,x≠y∧-x∉tr∧-y∉tr
variable {C C':List (List Int)} {K K' tr:List Int}
theorem Der.cut {x:Int} (h:Der C K x) (hk:∀y∈K,Der C K' y):Der C K' x:=by
 induction h with
 | fact hl=>exact hk _ hl
 | unit hc hl _ ih=>exact Der.unit hc hl ih
theorem Der.more {x:Int} (h:Der C K x) (hC:∀c∈C,c∈C') (hk:∀y∈K,y∈K'):Der C' K' x:=by
 induction h with
 | fact hl=>exact Der.fact (hk _ hl)
 | unit hc hl _ ih=>exact Der.unit (hC _ hc) hl ih
theorem Clash.cut (h:Clash C K) (hk:∀y∈K,Der C K' y):Clash C K':=by
 obtain ⟨c,hc,h⟩:=h
 exact ⟨c,hc,fun x hx=>(h x hx).cut hk⟩
theorem Clash.more (h:Clash C K) (hC:∀c∈C,c∈C') (hk:∀y∈K,y∈K'):Clash C' K':=by
 obtain ⟨c,hc,h⟩:=h
 exact ⟨c,hC c hc,fun x hx=>(h x hx).more hC hk⟩
theorem closed_der (h:Closed C tr) (hc:Cons tr) (h0:∀c∈C,∀x∈c,x≠0) (hk:∀x∈K,x∈tr) {x:Int} (hx:Der C K x):x∈tr:=by
 induction hx with
 | fact hl=>exact hk _ hl
 | @unit c l hcC hl hu ih=>
  rcases h c hcC with ⟨x,hx,hnx⟩ | ⟨x,hx,hxt⟩ | ⟨x,hx,y,hy,hne,hnx,hny⟩
  ·by_cases hxl:x=l
   ·subst hxl
    have hh : -x≠x:=fun e=>h0 c hcC x hx (by omega)
    have:=ih (-x) hnx hh
    rwa [Int.neg_neg] at this
   ·by_cases hnl : -x=l
    ·have:=ih x hx hxl
     rwa [hnl] at this
    ·have h1:=ih x hx hxl
     have h2:=ih (-x) hnx hnl
     rw [Int.neg_neg] at h2
     exact absurd h1 (hc x h2)
  ·by_cases hxl:x=l
   ·exact hxl ▸ hxt
   ·exact absurd (ih x hx hxl) (hc x hxt)
  ·by_cases hxl:x=l
   ·exact absurd (ih y hy (fun e=>hne (hxl.trans e.symm))) hny
   ·exact absurd (ih x hx hxl) hnx
theorem closed_clash (h:Closed C tr) (hc:Cons tr) (h0:∀c∈C,∀x∈c,x≠0) (hk:∀x∈K,x∈tr):¬Clash C K:=by
 rintro ⟨c,hcC,hf⟩
 have hf':∀x∈c,-x∈tr:=fun x hx=>closed_der h hc h0 hk (hf x hx)
 rcases h c hcC with ⟨x,hx,hnx⟩ | ⟨x,hx,hxt⟩ | ⟨x,hx,y,hy,hne,hnx,hny⟩
 ·have h1:=hf' x hx
  have h2:=hf' (-x) hnx
  exact hc (-x) h1 h2
 ·exact hc x hxt (hf' x hx)
 ·exact hnx (hf' x hx)
theorem der_true {T:Int→Prop} (hT:∀x,T x→¬T (-x)) (hC:∀c∈C,∃x∈c,T x) (hK:∀x∈K,T x) {x:Int} (h:Der C K x):T x:=by
 induction h with
 | fact hl=>exact hK _ hl
 | @unit c l hc hl _ ih=>
  obtain ⟨y,hy,ht⟩:=hC c hc
  by_cases hyl:y=l
  ·exact hyl ▸ ht
  ·exact absurd (ih y hy hyl) (hT y ht)
theorem clash_true {T:Int→Prop} (hT:∀x,T x→¬T (-x)) (hC:∀c∈C,∃x∈c,T x) (hK:∀x∈K,T x):¬Clash C K:=by
 rintro ⟨c,hc,h⟩
 obtain ⟨y,hy,ht⟩:=hC c hc
 exact hT y ht (der_true hT hC hK (h y hy))
end Go.Proofs.YtmhjehodfggleaaGreat.Eng

/- What a clash teaches, in plain: there is an answer; what its clause is. -/

set_option linter.unusedVariables false
set_option linter.unusedSimpArgs false
set_option linter.unusedSectionVars false
set_option maxRecDepth 100000
namespace Go.Proofs.YtmhjehodfggleaaGreat.Learn
open Go Go.Proofs.YtmhjehodfggleaaGreat.Vc Go.Proofs.YtmhjehodfggleaaGreat.T
open Go.Proofs.YtmhjehodfggleaaGreat.Apart (getE)
open Go.Proofs.YtmhjehodfggleaaGreat.Lits (Td Srt)
section
variable {es:List En} {cs:List Int}
def FalsP (es:List En) (S:Int→Prop):Prop:=∀l,S l→fl l=true∧∃y∈es,y.lit=neg l
theorem mem_ix {es:List En} {y:En} (h:y∈es):∃j:Nat,es[j]?=some y:=List.mem_iff_getElem?.1 h
theorem nxt_fals (hF:Fm es) {S:Int→Prop} (hS:FalsP es S) {x:En} (hx:x∈es):FalsP es (nxt S x):=fun l hl=>by
 rcases hl with ⟨hl,_⟩ | ⟨hl,hne⟩
 ·exact hS l hl
 ·exact rs_ok hF x hx l hl hne
theorem lrn_ex (hF:Fm es) {top:Int} : ∀(i:Nat) (S:Int→Prop),FalsP es S→(∀(j:Nat) (y:En),es[j]?=some y→y.lev=top→S (neg y.lit)→j<i)→(∃(j:Nat) (y:En),es[j]?=some y∧y.lev=top∧S (neg y.lit))→∃o F,Lrn es top S o F:=by
 intro i
 induction i with
 | zero=>
  intro S _ hb ⟨j,y,h1,h2,h3⟩
  exact absurd (hb j y h1 h2 h3) (Nat.not_lt_zero _)
 | succ i ih=>
  intro S hS hb hex
  by_cases hi:∃x,es[i]?=some x∧x.lev=top∧S (neg x.lit)
  ·obtain ⟨x,h1,h2,h3⟩:=hi
   have hG:Gt es top S i x:=⟨h1,h2,h3,fun j y hj hy hl hs=>by have:=hb j y hy hl hs; omega⟩
   by_cases hA:Alone es top S x
   ·exact ⟨_,_,.done hG hA⟩
   ·have hxm:=List.mem_of_getElem? h1
    have:∃l,S l∧lvl es l=top∧l≠neg x.lit:=by
     apply Classical.byContradiction
     intro hn
     exact hA fun l hl hlv=>Classical.byContradiction fun hne=>hn ⟨l,hl,hlv,hne⟩
    obtain ⟨l,hl,hlv,hne⟩:=this
    obtain ⟨hfl,y,hy,hyl⟩:=hS l hl
    obtain ⟨j,hj⟩:=mem_ix hy
    have hyv:=lvl_of hF hj hyl
    obtain ⟨o,F,hL⟩:=ih (nxt S x) (nxt_fals hF hS hxm) (fun k z hz hzl hzs=>by
     rcases hzs with ⟨hs,hn⟩ | ⟨hr,hn⟩
     ·have:=hb k z hz hzl hs
      have:k≠i:=fun e=>by subst e; rw [h1] at hz; injection hz with hz; rw [hz] at hn; exact hn rfl
      omega
     ·obtain ⟨j',y',g1,g2,g3⟩:=rs_ahead hF h1 hr hn
      have hfz:=(hF k z hz).1
      rw [neg_neg hfz] at g3
      have:=lit_one hF hz g2 g3.symm
      omega) ⟨j,y,hj,by rw [←hyv,hlv],Or.inl ⟨by rw [hyl,neg_neg hfl]; exact hl,by rw [hyl,neg_neg hfl]; exact hne⟩⟩
    exact ⟨o,F,.step hG hA hL⟩
  ·exact ih S hS (fun j y hy hl hs=>by
    have:=hb j y hy hl hs
    have:j≠i:=fun e=>hi ⟨y,by rw [←e]; exact hy,hl,hs⟩
    omega) hex
theorem mx_ex (hF:Fm es) (hn:es.length≤1048576):∀(L:List Int),∃b,Mx es (·∈L) b
 | []=>⟨0,Mx.nil fun l h=>by cases h⟩
 | l :: L=>by
  obtain ⟨b,hb⟩:=mx_ex hF hn L
  refine ⟨_,hb.add (l:=l) (fun x=>by rw [List.mem_cons]; exact Or.comm) ?_⟩
  by_cases h:∃y∈es,y.lit=neg l
  ·obtain ⟨y,hy,hl⟩:=h
   obtain ⟨j,hj⟩:=mem_ix hy
   rw [lvl_of hF hj hl]
   exact (lev_run hF hn j y hj).1
  ·rw [lvl_none fun y hy e=>h ⟨y,hy,e⟩]; exact Int.le_refl _
theorem lvl_ent (hF:Fm es) {l:Int} (h:0<lvl es l):∃(j:Nat) (y:En),es[j]?=some y∧y.lit=neg l∧y.lev=lvl es l:=by
 by_cases hy:∃y∈es,y.lit=neg l
 ·obtain ⟨y,hy,hl⟩:=hy
  obtain ⟨j,hj⟩:=mem_ix hy
  exact ⟨j,y,hj,hl,(lvl_of hF hj hl).symm⟩
 ·rw [lvl_none fun y hy' e=>hy ⟨y,hy',e⟩] at h; exact absurd h (Int.lt_irrefl _)
theorem td_ex (P:Int→Prop) (c:List Int) (h:∀x,P x→x∈c) (hf:∀x,P x→fl x=true):∃L,Td P L:=by
 open Classical in
 refine ⟨Eng.tidyL (c.filter fun x=>decide (P x)),(Eng.tidyL_td (c:=c.filter fun x=>decide (P x)) fun x hx=>?_).srt,fun x=>?_⟩
 ·rw [List.mem_filter] at hx; exact hf x (by simpa using hx.2)
 ·rw [(Eng.tidyL_td (c:=c.filter fun x=>decide (P x)) fun x hx=>by rw [List.mem_filter] at hx; exact hf x (by simpa using hx.2)).mem,List.mem_filter]
  constructor
  ·rintro ⟨⟨_,h2⟩,h3⟩; exact ⟨by simpa using h2,h3⟩
  ·rintro ⟨h1,h2⟩; exact ⟨⟨h x h1,by simpa using h1⟩,h2⟩
theorem lspec_ex (hF:Fm es) (hn:es.length≤1048576) (hcf:cs.all fl=true) (hf:Fals es cs):∃back cl,LSpec es cs 0 back cl:=by
 have hA:Askd es cs 0:=Or.inr (Or.inr ⟨rfl,hf,hF,hcf⟩)
 have hS:FalsP es (·∈cs):=fun l hl=>⟨List.all_eq_true.1 hcf l hl,hf l hl⟩
 obtain ⟨top,hM⟩:=mx_ex hF hn cs
 by_cases h0:top=0
 ·exact ⟨-1,[],hA,Or.inr ⟨rfl,top,hM,Or.inl ⟨h0,rfl,rfl⟩⟩⟩
 ·have hpos:0<top:=by have:=hM.2.1; omega
  obtain ⟨l,hl,hlv⟩:=hM.2.2.resolve_left h0
  obtain ⟨j,y,hj,hyl,hyv⟩:=lvl_ent hF (l:=l) (by rw [hlv]; exact hpos)
  have hfl:=(hS l hl).1
  obtain ⟨o,F,hL⟩:=lrn_ex hF (top:=top) es.length (·∈cs) hS (fun k z hz _ _=>(List.getElem?_eq_some_iff.1 hz).1) ⟨j,y,hj,hyv.trans hlv,by rw [hyl,neg_neg hfl]; exact hl⟩
  obtain ⟨hFs,hFo⟩:=hL.sub hF (rs_ok hF) hS
  obtain ⟨L,hT⟩:=td_ex (fun l=>F l∧l≠o∧0<lvl es l) (es.map fun y=>neg y.lit) (fun x hx=>by
   obtain ⟨hxf,y,hy,hyl⟩:=hFs x hx.1
   exact List.mem_map.2 ⟨y,hy,by rw [hyl,neg_neg hxf]⟩) (fun x hx=>(hFs x hx.1).1)
  obtain ⟨b,hb⟩:=mx_ex hF hn L
  exact ⟨b,o :: L,hA,Or.inr ⟨rfl,top,hM,Or.inr ⟨hpos,o,F,L,hL,hT,rfl,hb⟩⟩⟩
theorem lev_mono (hF:Fm es) (hn:es.length≤1048576) {i j:Nat} {x y:En} (hx:es[i]?=some x) (hy:es[j]?=some y) (h:j≤i):y.lev≤x.lev:=(lev_run hF hn i x hx).2.2 j y h hy
theorem lrn_le (hF:Fm es) (hn:es.length≤1048576) {top:Int} {S F:Int→Prop} {o:Int} (h:Lrn es top S o F):(∀l,S l→lvl es l≤top)→(∀l,F l→lvl es l≤top)∧lvl es o=top∧∀l,F l→lvl es l=top→l=o:=by
 induction h with
 | done h ha=>
  intro hS
  refine ⟨hS,?_,ha⟩
  rw [lvl_of hF h.at' (neg_neg (hF _ _ h.at').1).symm]; exact h.lev
 | step h ha hn' ih=>
  intro hS
  refine ih fun l hl=>?_
  rcases hl with ⟨hl,_⟩ | ⟨hl,hne⟩
  ·exact hS l hl
  ·obtain ⟨j,y,h1,h2,h3⟩:=rs_ahead hF h.at' hl hne
   rw [lvl_of hF h2 h3,←h.lev]
   exact lev_mono hF hn h.at' h2 (Nat.le_of_lt h1)
structure Ans1 (es:List En) (cs:List Int) (back:Int) (o:Int) (L:List Int) (top:Int):Prop where
 pos:0<top
 mx:Mx es (·∈cs) top
 lo:lvl es o=top
 fo:fl o=true
 eo:∃(j:Nat) (y:En),es[j]?=some y∧y.lit=neg o∧y.lev=top
 ml:∀l∈L,fl l=true∧0<lvl es l∧lvl es l<top∧∃y∈es,y.lit=neg l
 mb:Mx es (·∈L) back
 nd:L.Nodup
 no:o∉L
theorem lspec_ans (hF:Fm es) (hn:es.length≤1048576) (hcf:cs.all fl=true) (hf:Fals es cs) {back:Int} {cl:List Int} (h:LSpec es cs 0 back cl) :
  (cl=[]∧back=-1∧Mx es (·∈cs) 0)∨∃o L top,cl=o :: L∧Ans1 es cs back o L top:=by
 have hS:FalsP es (·∈cs):=fun l hl=>⟨List.all_eq_true.1 hcf l hl,hf l hl⟩
 obtain ⟨_,h⟩:=h
 rcases h with ⟨h,_⟩ | ⟨_,top,hM,h⟩
 ·exact absurd rfl h
 rcases h with ⟨rfl,h2,h3⟩ | ⟨hpos,o,F,L,hL,hT,rfl,hb⟩
 ·exact Or.inl ⟨h2,h3,hM⟩
 ·obtain ⟨hFs,hFo⟩:=hL.sub hF (rs_ok hF) hS
  obtain ⟨l1,l2,l3⟩:=lrn_le hF hn hL hM.1
  refine Or.inr ⟨o,L,top,rfl,hpos,hM,l2,(hFs o hFo).1,?_,fun l hl=>?_,hb,Eng.nodup_srt hT.srt,fun ho=>((hT.mem o).1 ho).1.2.1 rfl⟩
  ·obtain ⟨j,y,h1,h2,h3⟩:=lvl_ent hF (l:=o) (by rw [l2]; exact hpos)
   exact ⟨j,y,h1,h2,h3.trans l2⟩
  ·obtain ⟨⟨h1,h2,h3⟩,h4⟩:=(hT.mem l).1 hl
   refine ⟨h4,h3,?_,(hFs l h1).2⟩
   have:=l1 l h1
   rcases Int.lt_or_eq_of_le this with h | h
   ·exact h
   ·exact absurd (l3 l h1 h) h2
end
end Go.Proofs.YtmhjehodfggleaaGreat.Learn
