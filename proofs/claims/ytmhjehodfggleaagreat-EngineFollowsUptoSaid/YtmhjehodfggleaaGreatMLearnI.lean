/- Maps from ints to ints whose entries' stamps are known: walked over, updated, an entry deleted. -/

import Derived.Test.YtmhjehodfggleaaGreatMVcM
import Derived.Maps.RangeRun
import Derived.Test.YtmhjehodfggleaaGreatProg
import Derived.Test.YtmhjehodfggleaaGreatMTTrail
import Derived.Test.YtmhjehodfggleaaGreatMVcQ
import Derived.Test.YtmhjehodfggleaaGreatMArena
set_option linter.unusedVariables false
set_option linter.unusedSimpArgs false
namespace Go.Proofs.YtmhjehodfggleaaGreat.Vc
open Go
def dec (e:MapEntry):Int×Int:=match e.key,e.val with | .int _ a,.int _ b=>(a,b) | _,_=>(0,0)
def Kv (e:MapEntry):Prop:=e.key=.int .i64 (dec e).1∧e.val=.int .i64 (dec e).2
theorem kv_of {e:MapEntry} {a b:Int} (h1:e.key=.int .i64 a) (h2:e.val=.int .i64 b):Kv e∧dec e=(a,b):=by
 have:dec e=(a,b):=by unfold dec; rw [h1,h2]
 exact ⟨by unfold Kv; rw [this]; exact ⟨h1,h2⟩,this⟩
structure Es (es:Array MapEntry) (clock:Nat) (f:List (Int×Int)):Prop where
 kv:∀e∈es.toList,Kv e
 eq:f=es.toList.map dec
 lt:∀e∈es.toList,e.born<clock
 nd:(es.toList.map fun e:MapEntry=>e.born).Nodup
def Ms (w:World) (r:Nat) (f:List (Int×Int)):Prop:=∃es clock,w.heap[r]?=some (.map es clock)∧Es es clock f
theorem Es.mp {es:Array MapEntry} {clock:Nat} {f:List (Int×Int)} (h:Es es clock f):es.toList.map (fun e=>(e.key,e.val))=f.map fun p=>((.int .i64 p.1:Value),(.int .i64 p.2:Value)):=by
 rw [h.eq,List.map_map]
 exact List.map_congr_left fun e he=>by
  have:=h.kv e he
  show (e.key,e.val)=(.int .i64 (dec e).1,.int .i64 (dec e).2)
  rw [←this.1,←this.2]
theorem Ms.mp {w:World} {r:Nat} {f:List (Int×Int)} (h:Ms w r f):Mp w r f:=by
 obtain ⟨es,clock,hb,he⟩:=h
 exact ⟨es,clock,hb,he.mp⟩
theorem Ms.keep {S:Nat→Prop} {w w':World} {r:Nat} {f:List (Int×Int)} (h:Ms w r f) (hk:Keep S w w') (hs:¬S r):Ms w' r f:=by
 obtain ⟨es,clock,hb,he⟩:=h
 exact ⟨es,clock,by rw [hk.block r (Array.getElem?_eq_some_iff.1 hb).1 hs]; exact hb,he⟩
theorem Ms.keep0 {w w':World} {r:Nat} {f:List (Int×Int)} (h:Ms w r f) (hk:Keep None w w'):Ms w' r f:=h.keep hk fun h=>h
theorem Ms.lt {w:World} {r:Nat} {f:List (Int×Int)} (h:Ms w r f):r<w.heap.size:=h.mp.lt
theorem mkmapS_of {P:Program} {t:TypeId} {w:World} {K:Option Nat→World→Prop} (hk:∀r w',r=w.heap.size→Ms w' r []→Keep None w w'→K (some r) w') :
  ∃x:Option Nat,∃w1:World,(Instr.makeMap t none).run P w=.ok (.map x) w1∧K x w1:=
 ⟨some w.heap.size,w.alloc (.map #[] 0),by simp [Instr.makeMap],hk _ _ rfl ⟨#[],0,(MapKept.heap_alloc w _).1,⟨fun e h=>by simp at h,rfl,fun e h=>by simp at h,by simp⟩⟩ ((Keep.refl _ w).alloc _)⟩
theorem perm_out {e:MapEntry} : ∀{L:List MapEntry},(L.map fun e:MapEntry=>e.born).Nodup→e∈L→L.Perm (e :: L.filter fun x=>x.born != e.born):=by
 intro L
 induction L with
 | nil=>intro _ h; cases h
 | cons a t ih=>
  intro hn he
  rw [List.map_cons,List.nodup_cons] at hn
  by_cases hb:a.born=e.born
  ·have hno:e∉t:=fun h=>hn.1 (by rw [hb]; exact List.mem_map.2 ⟨e,h,rfl⟩)
   have hae:a=e:=by
    rcases List.mem_cons.1 he with h | h
    ·exact h.symm
    ·exact absurd h hno
   subst hae
   have:(a :: t).filter (fun x=>x.born != a.born)=t:=by
    rw [List.filter_cons_of_neg (by simp),List.filter_eq_self]
    intro x hx
    have:x.born≠a.born:=fun h=>hn.1 (by rw [←h]; exact List.mem_map.2 ⟨x,hx,rfl⟩)
    simpa using this
   rw [this]
  ·have het:e∈t:=by
    rcases List.mem_cons.1 he with h | h
    ·exact absurd (by rw [h]) hb
    ·exact h
   rw [List.filter_cons_of_pos (by simpa using hb)]
   exact ((ih hn.2 het).cons a).trans (List.Perm.swap _ _ _)
def It (w:World) (q r:Nat) (f todo:List (Int×Int)):Prop:=
 ∃es clock seen,w.heap[r]?=some (.map es clock)∧Es es clock f∧w.heap[q]?=some (.mapIter (some r) clock seen clock)∧todo=(leftOf es seen).toList.map dec
theorem It.ms {w:World} {q r:Nat} {f todo:List (Int×Int)} (h:It w q r f todo):Ms w r f:=by
 obtain ⟨es,clock,seen,hb,he,_⟩:=h
 exact ⟨es,clock,hb,he⟩
theorem It.lt {w:World} {q r:Nat} {f todo:List (Int×Int)} (h:It w q r f todo):q<w.heap.size:=by
 obtain ⟨es,clock,seen,hb,he,hq,_⟩:=h
 exact (Array.getElem?_eq_some_iff.1 hq).1
theorem It.keep {S:Nat→Prop} {w w':World} {q r:Nat} {f todo:List (Int×Int)} (h:It w q r f todo) (hk:Keep S w w') (hq:¬S q) (hr:¬S r):It w' q r f todo:=by
 obtain ⟨es,clock,seen,hb,he,hi,ht⟩:=h
 exact ⟨es,clock,seen,by rw [hk.block r (Array.getElem?_eq_some_iff.1 hb).1 hr]; exact hb,he,by rw [hk.block q (Array.getElem?_eq_some_iff.1 hi).1 hq]; exact hi,ht⟩
theorem It.keep0 {w w':World} {q r:Nat} {f todo:List (Int×Int)} (h:It w q r f todo) (hk:Keep None w w'):It w' q r f todo:=h.keep hk (fun h=>h) fun h=>h
section
variable {P:Program} {mty kt et:TypeId} {w:World} {r q:Nat} {f todo:List (Int×Int)}
theorem range_of {K:Addr→World→Prop} (hm:P.underlying mty=some (.map kt et)) (h:Ms w r f) (hk:∀q w',q=w.heap.size→It w' q r f f→Keep None w w'→K ⟨q,0,none⟩ w') :
  ∃(a:Addr) (w':World),(Instr.range mty (.map (some r))).run P w=.ok (.pointer (some a)) w'∧K a w':=by
 obtain ⟨es,clock,hb,he⟩:=h
 have hlt:=(Array.getElem?_eq_some_iff.1 hb).1
 refine ⟨_,_,run_range_map w mty kt et r es clock hm hb,hk _ _ rfl ⟨es,clock,#[],?_,he,(MapKept.heap_alloc w _).1,?_⟩ ((Keep.refl _ w).alloc _)⟩
 ·exact ((MapKept.heap_alloc w _).2 r hlt).trans hb
 ·rw [he.eq]
  have:(leftOf es #[]).toList=es.toList:=by
   unfold leftOf
   rw [Array.toList_filter]
   exact List.filter_eq_self.2 fun x _=>by simp
  rw [this]
theorem next_of {ty:TypeId} {K:Bool→World→Prop} (h:It w q r f todo) (hqr:q≠r) (h0:todo=[]→K false w)
  (h1:∀p todo' w',p∈todo→todo.Perm (p :: todo')→It w' q r f todo'→Keep (One q) w w'→w'.heap.size=w.heap.size→
   (Instr.entry (.pointer (some ⟨q,0,none⟩))).run P w'=.ok (.tuple #[.int .i64 p.1,.int .i64 p.2]) w'→K true w') :
  ∃(b:Bool) (l:List Value) (w':World),(Instr.next (.pointer (some ⟨q,0,none⟩)) false ty).run P w=.ok (.tuple (.bool b :: l).toArray) w'∧K b w':=by
 obtain ⟨es,clock,seen,hb,he,hq,ht⟩:=h
 rcases run_next_at (P:=P) w ty q r clock clock seen es clock hq hb he.lt (Nat.le_refl _) with ⟨hz,hrun⟩ | ⟨e,hel,w1,hal,hrun⟩
 ·refine ⟨false,[],w,hrun,h0 ?_⟩
  rw [ht,Array.eq_empty_of_size_eq_zero hz]; rfl
 ·have hem:e∈es.toList:=by unfold leftOf at hel; simp at hel; simpa using hel.1
  have hkv:=he.kv e hem
  have hb1:w1.heap[r]?=some (.map es clock):=by rcases hal with rfl | rfl<;>exact hb
  have hq1:w1.heap[q]?=some (.mapIter (some r) clock seen clock):=by rcases hal with rfl | rfl<;>exact hq
  have hqlt:=(Array.getElem?_eq_some_iff.1 hq1).1
  have hrlt:=(Array.getElem?_eq_some_iff.1 hb1).1
  have hbs:(Go.ChangeMaps.setBlock w1 q (.mapIter (some r) clock (seen.push e.born) clock)).heap[r]?=some (.map es clock):=by
   show (w1.heap.setIfInBounds q _)[r]?=_
   rw [Array.getElem?_setIfInBounds_ne hqr]; exact hb1
  have hqs:(Go.ChangeMaps.setBlock w1 q (.mapIter (some r) clock (seen.push e.born) clock)).heap[q]?=some (.mapIter (some r) clock (seen.push e.born) clock):=by
   show (w1.heap.setIfInBounds q _)[q]?=_
   rw [Array.getElem?_setIfInBounds_self_of_lt hqlt]
  have hent:=run_entry_at (P:=P) _ q r clock seen es clock e hqs hbs hem he.nd
  rw [hkv.1,hkv.2] at hrun hent
  have hw1:Keep (One q) w w1:=by
   rcases hal with rfl | rfl
   ·exact Keep.refl _ _
   ·exact (Keep.refl _ w).drew
  have hsz:w1.heap.size=w.heap.size:=by rcases hal with rfl | rfl<;>rfl
  refine ⟨true,[.int .i64 (dec e).1,.int .i64 (dec e).2],_,hrun,h1 (dec e) ((leftOf es (seen.push e.born)).toList.map dec) _ ?_ ?_ ⟨es,clock,seen.push e.born,hbs,he,hqs,rfl⟩ ?_ ?_ hent⟩
  ·rw [ht]; exact List.mem_map.2 ⟨e,hel,rfl⟩
  ·rw [ht]
   have hnl:((leftOf es seen).toList.map fun e:MapEntry=>e.born).Nodup:=by
    unfold leftOf
    rw [Array.toList_filter]
    exact he.nd.sublist ((List.filter_sublist ..).map _)
   have hp:=(perm_out hnl hel).map dec
   have e2:(leftOf es (seen.push e.born)).toList=(leftOf es seen).toList.filter fun x=>x.born != e.born:=by
    unfold leftOf
    rw [Array.toList_filter,Array.toList_filter,List.filter_filter]
    congr 1
    funext x
    rw [Array.contains_push]
    cases seen.contains x.born<;>simp [bne]
   rw [e2]
   exact hp
  ·refine hw1.trans (S':=One q) ⟨rfl,rfl,rfl,?_,fun i hi hn=>?_⟩ fun i _ h=>h
   ·show w1.heap.size≤(w1.heap.setIfInBounds q _).size
    simp
   ·show (w1.heap.setIfInBounds q _)[i]?=_
    rw [Array.getElem?_setIfInBounds_ne (fun e=>hn e.symm)]
  ·show (w1.heap.setIfInBounds q _).size=_
   simp [hsz]
theorem It.len {w:World} (h:It w q r f todo):todo.length≤f.length:=by
 obtain ⟨es,clock,seen,hb,he,hq,ht⟩:=h
 rw [ht,he.eq]
 unfold leftOf
 rw [Array.toList_filter]
 simp only [List.length_map]
 exact List.length_filter_le ..
theorem upS_of {K:World→Prop} {k v:Int} (hm:P.underlying mty=some (.map kt et)) (hd:P.underlying kt=some (.int .i64)) (h:Ms w r f) (hk:∀w',Ms w' r (mput k v f)→Keep (One r) w w'→w'.heap.size=w.heap.size→K w') :
  ∃w':World,(Instr.mapUpdate mty (.map (some r)) (.int .i64 k) (.int .i64 v)).run P w=.ok () w'∧K w':=by
 obtain ⟨es,clock,hb,hE⟩:=h
 have he:=hE.mp
 have hkey:MapKept.IsKey (.int .i64) (.int .i64 k):=rfl
 have kp:∀o,Keep (One r) w {w with heap:=w.heap.setIfInBounds r o}:=fun o=>⟨rfl,rfl,rfl,by simp,fun i hi hn=>(MapKept.heap_set hb).2 i hn⟩
 rcases findNow_int k es.toList f 0 he with ⟨h1,h2⟩ | ⟨h1,j,h2,e,h3,h4,h5⟩
 ·refine ⟨{w with heap:=w.heap.setIfInBounds r (.map (es.push {key:=.int .i64 k,val:=.int .i64 v,born:=clock}) (clock+1))},?_,hk _ ⟨_,_,(MapKept.heap_set hb).1,?_⟩ (kp _) (by simp)⟩
  ·simp [Instr.mapUpdate,run_underlying hm,MapKept.run_getObj_map hb,MapKept.run_checkKey hd hkey,MapKept.run_findKey hd h2,MapKept.run_setObj_map _ hb,Result.andThen]
  ·have:=mput_no (v:=v) h1
   rw [this]
   refine ⟨fun x hx=>?_,?_,fun x hx=>?_,?_⟩
   ·simp at hx
    rcases hx with hx | rfl
    ·exact hE.kv x (by simpa using hx)
    ·exact (kv_of rfl rfl).1
   ·rw [hE.eq]; simp [dec]
   ·simp at hx
    rcases hx with hx | rfl
    ·have:=hE.lt x (by simpa using hx); omega
    ·exact Nat.lt_succ_self _
   ·simp only [Array.toList_push,List.map_append,List.map_cons,List.map_nil]
    rw [List.nodup_append]
    refine ⟨hE.nd,by simp,fun a ha b hb=>?_⟩
    simp at hb
    subst hb
    obtain ⟨x,hx,rfl⟩:=List.mem_map.1 ha
    have:=hE.lt x hx; omega
 ·have hj:es[j]?=some e:=by simpa using h3
  refine ⟨{w with heap:=w.heap.setIfInBounds r (.map (es.modify j fun e=>{e with key:=.int .i64 k,val:=.int .i64 v}) clock)},?_,hk _ ⟨_,_,(MapKept.heap_set hb).1,?_⟩ (kp _) (by simp)⟩
  ·simp [Instr.mapUpdate,run_underlying hm,MapKept.run_getObj_map hb,MapKept.run_checkKey hd hkey,MapKept.run_findKey hd h2,hj,h4,MapKept.run_keyThatStays hkey,MapKept.run_setObj_map _ hb,Result.andThen]
  ·have h5v:=h5 v
   have mem:∀(l:List MapEntry) (j:Nat) (x:MapEntry),x∈l.modify j (fun e=>{e with key:=.int .i64 k,val:=.int .i64 v})→x∈l∨∃e∈l,x={e with key:=.int .i64 k,val:=.int .i64 v}:=by
    intro l
    induction l with
    | nil=>intro j x hx; simp at hx
    | cons a l ih=>
     intro j x hx
     cases j with
     | zero=>
      simp only [List.modify_zero_cons,List.mem_cons] at hx
      rcases hx with rfl | hx
      ·exact Or.inr ⟨a,by simp,rfl⟩
      ·exact Or.inl (by simp [hx])
     | succ j=>
      simp only [List.modify_succ_cons,List.mem_cons] at hx
      rcases hx with rfl | hx
      ·exact Or.inl (by simp)
      ·rcases ih j x hx with h | ⟨e,he,rfl⟩
       ·exact Or.inl (by simp [h])
       ·exact Or.inr ⟨e,by simp [he],rfl⟩
   have born:∀(l:List MapEntry) (j:Nat),(l.modify j (fun e=>{e with key:=.int .i64 k,val:=.int .i64 v})).map (fun e:MapEntry=>e.born)=l.map fun e:MapEntry=>e.born:=by
    intro l
    induction l with
    | nil=>intro j; simp
    | cons a l ih=>intro j; cases j<;>simp [ih]
   have hkv:∀x∈(es.toList.modify j fun e=>{e with key:=.int .i64 k,val:=.int .i64 v}),Kv x:=fun x hx=>by
    rcases mem _ _ _ hx with h | ⟨e,he,rfl⟩
    ·exact hE.kv x h
    ·exact (kv_of rfl rfl).1
   refine ⟨fun x hx=>hkv x (by simpa using hx),?_,fun x hx=>?_,?_⟩
   ·rw [Array.toList_modify]
    have h6:=congrArg (List.map fun p:Value×Value=>(match p.1,p.2 with | .int _ a,.int _ b=>(a,b) | _,_=>((0:Int),(0:Int)))) h5v
    rw [List.map_map,List.map_map] at h6
    have e1:(mput k v f).map ((fun p:Value×Value=>(match p.1,p.2 with | .int _ a,.int _ b=>(a,b) | _,_=>((0:Int),(0:Int)))) ∘ fun p:Int×Int=>((.int .i64 p.1:Value),(.int .i64 p.2:Value)))=mput k v f:=by
     conv=>rhs; rw [←List.map_id (mput k v f)]
     exact List.map_congr_left fun p _=>rfl
    rw [e1] at h6
    rw [←h6]
    exact List.map_congr_left fun p _=>rfl
   ·rw [Array.toList_modify] at hx
    rcases mem _ _ _ hx with h | ⟨e,he,rfl⟩
    ·exact hE.lt x h
    ·exact hE.lt e he
   ·rw [Array.toList_modify,born]; exact hE.nd
def mdel (k:Int):List (Int×Int)→List (Int×Int)
 | []=>[]
 | p :: f=>if p.1=k then f else p :: mdel k f
theorem del_of {ty:TypeId} {K:World→Prop} {k:Int} (hm:P.underlying mty=some (.map kt et)) (hd:P.underlying kt=some (.int .i64)) (h:Ms w r f) (hk:∀w',Ms w' r (mdel k f)→Keep (One r) w w'→w'.heap.size=w.heap.size→K w') :
  ∃w':World,(Builtin.delete_ #[mty,kt] ty #[.map (some r),.int .i64 k]).run P w=.ok (.tuple #[]) w'∧K w':=by
 obtain ⟨es,clock,hb,hE⟩:=h
 have he:=hE.mp
 have hkey:MapKept.IsKey (.int .i64) (.int .i64 k):=rfl
 have kp:∀o,Keep (One r) w {w with heap:=w.heap.setIfInBounds r o}:=fun o=>⟨rfl,rfl,rfl,by simp,fun i hi hn=>(MapKept.heap_set hb).2 i hn⟩
 have dno:∀{f:List (Int×Int)},mhas k f=false→mdel k f=f:=by
  intro f
  induction f with
  | nil=>intro _; rfl
  | cons p f ih=>
   intro h
   have h':p.1≠k∧mhas k f=false:=by simpa [mhas] using h
   rw [mdel,if_neg h'.1,ih h'.2]
 have ers:∀(l:List MapEntry) (f:List (Int×Int)) (i j:Nat) (x:Nat×Value),f=l.map dec→(∀e∈l,Kv e)→Instr.findNow (.int .i64) (.int .i64 k) l i=some (some x)→x.1=i+j→mdel k f=(l.eraseIdx j).map dec:=by
  intro l
  induction l with
  | nil=>intro f i j x _ _ h; simp [Instr.findNow] at h
  | cons e l ih=>
   intro f i j x hf hkv h hx
   subst hf
   have hke:=(hkv e (by simp)).1
   simp only [Instr.findNow] at h
   by_cases hp:(dec e).1=k
   ·have hs:Instr.sameNow (.int .i64) (.int .i64 k) e.key=some true:=by rw [hke,hp]; simp [Instr.sameNow]
    rw [hs] at h
    simp at h
    subst h
    obtain rfl:j=0:=by simp at hx; omega
    simp [mdel,hp]
   ·have hs:Instr.sameNow (.int .i64) (.int .i64 k) e.key=some false:=by rw [hke]; simp [Instr.sameNow]; exact fun e=>hp e.symm
    rw [hs] at h
    have hge:∀(l:List MapEntry) (i:Nat),Instr.findNow (.int .i64) (.int .i64 k) l i=some (some x)→i≤x.1:=by
     intro l
     induction l with
     | nil=>intro i h; simp [Instr.findNow] at h
     | cons e l ih=>
      intro i h
      simp only [Instr.findNow] at h
      split at h
      ·simp at h; rw [←h]; exact Nat.le_refl _
      ·have:=ih (i+1) h; omega
      ·cases h
    have:=hge l (i+1) h
    obtain ⟨j',rfl⟩:∃j',j=j'+1:=⟨j - 1,by omega⟩
    have:=ih (l.map dec) (i+1) j' x rfl (fun e he=>hkv e (by simp [he])) h (by omega)
    simp [mdel,hp,this]
 rcases findNow_int k es.toList f 0 he with ⟨h1,h2⟩ | ⟨h1,j,h2,e,h3,h4,h5⟩
 ·refine ⟨{w with heap:=w.heap.setIfInBounds r (.map es clock)},?_,hk _ ⟨es,clock,(MapKept.heap_set hb).1,by rw [dno h1]; exact hE⟩ (kp _) (by simp)⟩
  simp [Builtin.delete_,run_underlying hm,MapKept.run_getObj_map hb,MapKept.run_checkKey hd hkey,MapKept.run_findKey hd h2,MapKept.run_setObj_map _ hb,Result.andThen]
 ·refine ⟨{w with heap:=w.heap.setIfInBounds r (.map (es.eraseIdxIfInBounds j) clock)},?_,hk _ ⟨_,_,(MapKept.heap_set hb).1,?_⟩ (kp _) (by simp)⟩
  ·simp [Builtin.delete_,run_underlying hm,MapKept.run_getObj_map hb,MapKept.run_checkKey hd hkey,MapKept.run_findKey hd h2,MapKept.run_setObj_map _ hb,Result.andThen]
  ·have hsub:(es.eraseIdxIfInBounds j).toList=es.toList.eraseIdx j:=by
    rw [Array.eraseIdxIfInBounds]
    split
    ·rw [Array.toList_eraseIdx]
    ·rename_i hn
     rw [List.eraseIdx_of_length_le (by simpa using hn)]
   have hsl:(es.toList.eraseIdx j).Sublist es.toList:=List.eraseIdx_sublist ..
   refine ⟨fun x hx=>hE.kv x (hsl.subset (by rwa [hsub] at hx)),?_,fun x hx=>hE.lt x (hsl.subset (by rwa [hsub] at hx)),by rw [hsub]; exact hE.nd.sublist (hsl.map _)⟩
   rw [hsub]
   exact ers es.toList f 0 j _ hE.eq hE.kv h2 (by simp)
end
def leftM (w:World) (r q:Nat):Nat:=match w.heap[r]?,w.heap[q]? with
 | some (.map es _),some (.mapIter _ _ seen _)=>(leftOf es seen).size
 | _,_=>0
theorem It.left {w:World} {q r:Nat} {f todo:List (Int×Int)} (h:It w q r f todo):leftM w r q=todo.length:=by
 obtain ⟨es,clock,seen,hb,he,hq,ht⟩:=h
 unfold leftM
 rw [hb,hq,ht]
 simp
theorem It.ne {w:World} {q r:Nat} {f todo:List (Int×Int)} (h:It w q r f todo):q≠r:=by
 obtain ⟨es,clock,seen,hb,he,hq,ht⟩:=h
 rintro rfl
 rw [hb] at hq; cases hq
theorem pigeon (a:Int):∀(k:Nat) (L:List Int),L.Nodup→(∀x∈L,a≤x∧x<a+k)→L.length≤k:=by
 intro k
 induction k with
 | zero=>
  intro L _ h
  cases L with
  | nil=>exact Nat.le_refl _
  | cons x t=>have:=h x (by simp); omega
 | succ k ih=>
  intro L hn h
  by_cases hm:a+k∈L
  ·have h1:=ih (L.erase (a+k)) (hn.erase _) fun x hx=>by
    have h2:=(hn.mem_erase_iff).1 hx
    have:=h x h2.2
    have:=h2.1
    omega
   rw [List.length_erase_of_mem hm] at h1
   omega
  ·have h1:=ih L hn fun x hx=>by
    have:=h x hx
    have:x≠a+k:=fun e=>hm (e ▸ hx)
    omega
   omega
end Go.Proofs.YtmhjehodfggleaaGreat.Vc

/- The conditions under which the functions printed here return, as propositions over typed values; each is the machine's own, by the generator's theorem. -/

set_option linter.unusedVariables false
set_option maxRecDepth 100000
namespace Go.Proofs.YtmhjehodfggleaaGreat.T
open Go Go.Proofs.YtmhjehodfggleaaGreat.Vc
def V136 (a0:Option Addr) (a0n:Nat) (a0c:Nat) (w:World) (R:Value→World→Prop):Prop:=
 ∃x3:Option Nat,∃w1:World,(Instr.makeMap 168 none).run Tryz.prog w=.ok (.map x3) w1∧
 lp (σ:=Int×Int×Unit) (fun s9 w2 k8=>match s9 with
  | (v6,v7,_)=>
  pif (decide (v7<(a0n:Int))) (
   ixA a0 a0n v7 3 fun p12=>
   ldI .i64 w2 (p12.add 0) fun x13=>
   ldI .i64 w2 (p12.add 1) fun x14=>
   ldC w2 (p12.add 2) fun x15 x15n x15c=>
   alc w2 [.int .i64 0,.int .i64 0,.slice none 0 0] 164 fun b16 w3=>
   st w3 ((⟨b16,0,none⟩:Addr).add 0) (.int .i64 x13) fun w4=>
   st w4 ((⟨b16,0,none⟩:Addr).add 1) (.int .i64 x14) fun w5=>
   st w5 ((⟨b16,0,none⟩:Addr).add 2) (.slice x15 x15n x15c) fun w6=>
   gd (α:=Int) (v7==0) (fun k18=>
    ldI .i64 w6 ((⟨b16,0,none⟩:Addr).add 1) fun x19=>
    k18 x19 w6) 0 w6 fun x20 w7=>
   gd (α:=Int) ((!(cond (v7==0) (x20==1) false))&&(decide (v7>0))) (fun k21=>
    ldI .i64 w7 ((⟨b16,0,none⟩:Addr).add 1) fun x22=>
    k21 x22 w7) 0 w7 fun x23 w8=>
   gd (α:=Int) (!(cond (cond (v7==0) (x20==1) false) true (cond (decide (v7>0)) (x23==(IntKind.wrap .i64 (v6+1))) false))) (fun k25=>
    ldI .i64 w8 ((⟨b16,0,none⟩:Addr).add 1) fun x26=>
    k25 x26 w8) 0 w8 fun x27 w9=>
   gd (α:=Int) (!(cond (!(cond (cond (v7==0) (x20==1) false) true (cond (decide (v7>0)) (x23==(IntKind.wrap .i64 (v6+1))) false))) (x27 != v6) false)) (fun k28=>
    ldI .i64 w9 ((⟨b16,0,none⟩:Addr).add 0) fun x29=>
    k28 x29 w9) 0 w9 fun x30 w10=>
   gd (α:=Int) (!(cond (!(cond (cond (v7==0) (x20==1) false) true (cond (decide (v7>0)) (x23==(IntKind.wrap .i64 (v6+1))) false))) (x27 != v6) false)) (fun k31=>
    ∃x32:Int,∃w11:World,(Instr.lookup 168 (.map x3) (.int .i64 x30) false).run Tryz.prog w10=.ok (.int .i64 x32) w11∧
    k31 x32 w11) 0 w10 fun x33 w12=>
   gd (α:=Int) (!(cond (cond (!(cond (cond (v7==0) (x20==1) false) true (cond (decide (v7>0)) (x23==(IntKind.wrap .i64 (v6+1))) false))) (x27 != v6) false) true (decide (x33>0)))) (fun k34=>
    ldI .i64 w12 ((⟨b16,0,none⟩:Addr).add 0) fun x35=>
    k34 x35 w12) 0 w12 fun x36 w13=>
   gd (α:=Int) (!(cond (cond (!(cond (cond (v7==0) (x20==1) false) true (cond (decide (v7>0)) (x23==(IntKind.wrap .i64 (v6+1))) false))) (x27 != v6) false) true (decide (x33>0)))) (fun k37=>
    ∃x38:Int,∃w14:World,(Instr.lookup 168 (.map x3) (.int .i64 (IntKind.wrap .i64 (0 - x36))) false).run Tryz.prog w13=.ok (.int .i64 x38) w14∧
    k37 x38 w14) 0 w13 fun x39 w15=>
   gd (α:=Int) (!(cond (cond (cond (!(cond (cond (v7==0) (x20==1) false) true (cond (decide (v7>0)) (x23==(IntKind.wrap .i64 (v6+1))) false))) (x27 != v6) false) true (decide (x33>0))) true (decide (x39>0)))) (fun k40=>
    ldI .i64 w15 ((⟨b16,0,none⟩:Addr).add 0) fun x41=>
    k40 x41 w15) 0 w15 fun x42 w16=>
   gd (α:=Bool) (!(cond (cond (cond (!(cond (cond (v7==0) (x20==1) false) true (cond (decide (v7>0)) (x23==(IntKind.wrap .i64 (v6+1))) false))) (x27 != v6) false) true (decide (x33>0))) true (decide (x39>0)))) (fun k43=>
    cl Tryz.prog 90 [.int .i64 x42] w16 fun e45 w17=>∃x44:Bool,e45=Ending.returned (.bool x44)∧
    k43 x44 w17) false w16 fun x46 w18=>
   pif (cond (cond (cond (cond (!(cond (cond (v7==0) (x20==1) false) true (cond (decide (v7>0)) (x23==(IntKind.wrap .i64 (v6+1))) false))) (x27 != v6) false) true (decide (x33>0))) true (decide (x39>0))) true (!x46)) (
    R (.bool false) w18) (
    ldI .i64 w18 ((⟨b16,0,none⟩:Addr).add 1) fun x49=>
    gd (α:=(Option Addr×Nat×Nat)) (decide (x49>0)) (fun k51=>
     ldC w18 ((⟨b16,0,none⟩:Addr).add 2) fun x52 x52n x52c=>
     k51 (x52,x52n,x52c) w18) (none,0,0) w18 fun x53 w19=>
    gd (α:=(Option Addr×Nat×Nat)) (!(cond (decide (x49>0)) (!((cond (cond (v7==0) (x20==1) false) true (cond (decide (v7>0)) (x23==(IntKind.wrap .i64 (v6+1))) false))==((x53.2.1:Int)==0))) false)) (fun k54=>
     ldC w19 ((⟨b16,0,none⟩:Addr).add 2) fun x55 x55n x55c=>
     k54 (x55,x55n,x55c) w19) (none,0,0) w19 fun x56 w20=>
    gd (α:=(Int×Int×(Option Addr×Nat×Nat)×Unit)) ((!(cond (decide (x49>0)) (!((cond (cond (v7==0) (x20==1) false) true (cond (decide (v7>0)) (x23==(IntKind.wrap .i64 (v6+1))) false))==((x53.2.1:Int)==0))) false))&&(decide ((x56.2.1:Int)>0))) (fun k57=>
     ldI .i64 w20 ((⟨b16,0,none⟩:Addr).add 0) fun x58=>
     ldI .i64 w20 ((⟨b16,0,none⟩:Addr).add 1) fun x59=>
     ldC w20 ((⟨b16,0,none⟩:Addr).add 2) fun x60 x60n x60c=>
     k57 (x58,x59,(x60,x60n,x60c),()) w20) (0,0,(none,0,0),()) w20 fun x61 w21=>
    gd (α:=Bool) ((!(cond (decide (x49>0)) (!((cond (cond (v7==0) (x20==1) false) true (cond (decide (v7>0)) (x23==(IntKind.wrap .i64 (v6+1))) false))==((x53.2.1:Int)==0))) false))&&(decide ((x56.2.1:Int)>0))) (fun k62=>
     cl Tryz.prog 162 [.agg #[.int .i64 x61.1,.int .i64 x61.2.1,.slice x61.2.2.1.1 x61.2.2.1.2.1 x61.2.2.1.2.2],.map x3] w21 fun e64 w22=>∃x63:Bool,e64=Ending.returned (.bool x63)∧
     k62 x63 w22) false w21 fun x65 w23=>
    pif (cond (cond (decide (x49>0)) (!((cond (cond (v7==0) (x20==1) false) true (cond (decide (v7>0)) (x23==(IntKind.wrap .i64 (v6+1))) false))==((x53.2.1:Int)==0))) false) true (cond (decide ((x56.2.1:Int)>0)) (!x65) false)) (
     R (.bool false) w23) (
     ldI .i64 w23 ((⟨b16,0,none⟩:Addr).add 0) fun x68=>
     ∃x69:Int,∃w24:World,(Instr.lookup 168 (.map x3) (.int .i64 x68) false).run Tryz.prog w23=.ok (.int .i64 x69) w24∧
     ∃w25:World,(Instr.mapUpdate 168 (.map x3) (.int .i64 x68) (.int .i64 (IntKind.wrap .i64 (x69+1)))).run Tryz.prog w24=.ok () w25∧
     k8 (x49,(IntKind.wrap .i64 (v7+1)),()) w25))) (
   R (.bool true) w2)) (0,0,()) w1
def An136:An:=.seq (.leaf) (.seq (.leaf) (.seq (.leaf) (.seq (.seq (.leaf) (.blk (.loop [(4,.one (.int .i64)),(11,.one (.int .i64))] (.seq (.leaf) (.seq (.cond (.leaf) (.leaf)) (.seq (.blk (.seq (.leaf) (.seq (.leaf) (.seq (.seq (.leaf) (.cond (.seq (.leaf) (.leaf)) (.leaf))) (.seq (.leaf) (.seq (.seq (.leaf) (.cond (.seq (.leaf) (.leaf)) (.leaf))) (.leaf))))))) (.leaf))))))) (.seq (.leaf) (.leaf)))))
theorem V136_eq (a0:Option Addr) (a0n:Nat) (a0c:Nat) (w:World) (R:Value→World→Prop):evF Tryz.prog Tryz.f136 An136 [.slice a0 a0n a0c] w R=V136 a0 a0n a0c w R:=by kernel_rfl
theorem V136_calls (a0:Option Addr) (a0n:Nat) (a0c:Nat) (w:World) (R:Value→World→Prop) (h:V136 a0 a0n a0c w R):Calls Tryz.prog 136 #[.slice a0 a0n a0c] w fun e w'=>∃v,e=.returned v∧R v w':=
 calls_of_ev (args:=[.slice a0 a0n a0c]) Tryz.func136 (Nat.le_of_ble_eq_true (by kernel_rfl)) (by rw [V136_eq]; exact h)
theorem ok136:fnOk Tryz.prog 136=true:=by kernel_rfl
def V162 (a0_0:Int) (a0_1:Int) (a0_2:Option Addr) (a0_2n:Nat) (a0_2c:Nat) (a1:Option Nat) (w:World) (R:Value→World→Prop):Prop:=
 alc w [.int .i64 a0_0,.int .i64 a0_1,.slice a0_2 a0_2n a0_2c] 164 fun b2 w1=>
 ldC w1 ((⟨b2,0,none⟩:Addr).add 2) fun x4 x4n x4c=>
 ldI .i64 w1 ((⟨b2,0,none⟩:Addr).add 0) fun x5=>
 cl Tryz.prog 182 [.slice x4 x4n x4c,.int .i64 x5] w1 fun e7 w2=>∃x6:Bool,e7=Ending.returned (.bool x6)∧
 gd (α:=(Option Addr×Nat×Nat)) (!(!x6)) (fun k8=>
  ldC w2 ((⟨b2,0,none⟩:Addr).add 2) fun x9 x9n x9c=>
  k8 (x9,x9n,x9c) w2) (none,0,0) w2 fun x10 w3=>
 gd (α:=Bool) (!(!x6)) (fun k11=>
  cl Tryz.prog 89 [.slice x10.1 x10.2.1 x10.2.2] w3 fun e13 w4=>∃x12:Bool,e13=Ending.returned (.bool x12)∧
  k11 x12 w4) false w3 fun x14 w5=>
 pif (cond (!x6) true (!x14)) (
  R (.bool false) w5) (
  ldC w5 ((⟨b2,0,none⟩:Addr).add 2) fun x17 x17n x17c=>
  lp (σ:=Int×Unit) (fun s20 w6 k19=>match s20 with
   | (v18,_)=>
   pif (decide (v18<(x17n:Int))) (
    ixA x17 x17n v18 1 fun p23=>
    ldI .i64 w6 p23 fun x24=>
    ldI .i64 w6 ((⟨b2,0,none⟩:Addr).add 0) fun x26=>
    gd (α:=Int) (x24 != x26) (fun k27=>
     ∃x28:Int,∃w7:World,(Instr.lookup 168 (.map a1) (.int .i64 (IntKind.wrap .i64 (0 - x24))) false).run Tryz.prog w6=.ok (.int .i64 x28) w7∧
     k27 x28 w7) 0 w6 fun x29 w8=>
    pif (cond (x24 != x26) (x29==0) false) (
     R (.bool false) w8) (
     k19 ((IntKind.wrap .i64 (v18+1)),()) w8)) (
    R (.bool true) w6)) (0,()) w5)
def An162:An:=.seq (.leaf) (.seq (.seq (.leaf) (.cond (.seq (.leaf) (.leaf)) (.leaf))) (.seq (.seq (.leaf) (.blk (.loop [(22,.one (.int .i64))] (.seq (.leaf) (.seq (.cond (.leaf) (.leaf)) (.seq (.blk (.seq (.leaf) (.seq (.leaf) (.cond (.seq (.leaf) (.leaf)) (.leaf))))) (.leaf))))))) (.seq (.leaf) (.leaf))))
theorem V162_eq (a0_0:Int) (a0_1:Int) (a0_2:Option Addr) (a0_2n:Nat) (a0_2c:Nat) (a1:Option Nat) (w:World) (R:Value→World→Prop):evF Tryz.prog Tryz.f162 An162 [.agg #[.int .i64 a0_0,.int .i64 a0_1,.slice a0_2 a0_2n a0_2c],.map a1] w R=V162 a0_0 a0_1 a0_2 a0_2n a0_2c a1 w R:=by kernel_rfl
theorem V162_calls (a0_0:Int) (a0_1:Int) (a0_2:Option Addr) (a0_2n:Nat) (a0_2c:Nat) (a1:Option Nat) (w:World) (R:Value→World→Prop) (h:V162 a0_0 a0_1 a0_2 a0_2n a0_2c a1 w R):Calls Tryz.prog 162 #[.agg #[.int .i64 a0_0,.int .i64 a0_1,.slice a0_2 a0_2n a0_2c],.map a1] w fun e w'=>∃v,e=.returned v∧R v w':=
 calls_of_ev (args:=[.agg #[.int .i64 a0_0,.int .i64 a0_1,.slice a0_2 a0_2n a0_2c],.map a1]) Tryz.func162 (Nat.le_of_ble_eq_true (by kernel_rfl)) (by rw [V162_eq]; exact h)
theorem ok162:fnOk Tryz.prog 162=true:=by kernel_rfl
def V98 (a0:Option Addr) (a0n:Nat) (a0c:Nat) (w:World) (R:Value→World→Prop):Prop:=
 ∃x3:Option Nat,∃w1:World,(Instr.makeMap 168 none).run Tryz.prog w=.ok (.map x3) w1∧
 lp (σ:=Int×Unit) (fun s7 w2 k6=>match s7 with
  | (v5,_)=>
  pif (decide (v5<(a0n:Int))) (
   ixA a0 a0n v5 3 fun p10=>
   ldI .i64 w2 (p10.add 0) fun x11=>
   ldI .i64 w2 (p10.add 1) fun x12=>
   ldC w2 (p10.add 2) fun x13 x13n x13c=>
   alc w2 [.int .i64 0,.int .i64 0,.slice none 0 0] 164 fun b14 w3=>
   st w3 ((⟨b14,0,none⟩:Addr).add 0) (.int .i64 x11) fun w4=>
   st w4 ((⟨b14,0,none⟩:Addr).add 1) (.int .i64 x12) fun w5=>
   st w5 ((⟨b14,0,none⟩:Addr).add 2) (.slice x13 x13n x13c) fun w6=>
   ldI .i64 w6 ((⟨b14,0,none⟩:Addr).add 0) fun x16=>
   ∃w7:World,(Instr.mapUpdate 168 (.map x3) (.int .i64 (IntKind.wrap .i64 (0 - x16))) (.int .i64 (IntKind.wrap .i64 (v5+1)))).run Tryz.prog w6=.ok () w7∧
   k6 ((IntKind.wrap .i64 (v5+1)),()) w7) (
   R (.map x3) w2)) (0,()) w1
def An98:An:=.seq (.leaf) (.seq (.leaf) (.seq (.seq (.leaf) (.blk (.loop [(9,.one (.int .i64))] (.seq (.leaf) (.seq (.cond (.leaf) (.leaf)) (.seq (.blk (.seq (.leaf) (.leaf))) (.leaf))))))) (.seq (.leaf) (.leaf))))
theorem V98_eq (a0:Option Addr) (a0n:Nat) (a0c:Nat) (w:World) (R:Value→World→Prop):evF Tryz.prog Tryz.f98 An98 [.slice a0 a0n a0c] w R=V98 a0 a0n a0c w R:=by kernel_rfl
theorem V98_calls (a0:Option Addr) (a0n:Nat) (a0c:Nat) (w:World) (R:Value→World→Prop) (h:V98 a0 a0n a0c w R):Calls Tryz.prog 98 #[.slice a0 a0n a0c] w fun e w'=>∃v,e=.returned v∧R v w':=
 calls_of_ev (args:=[.slice a0 a0n a0c]) Tryz.func98 (Nat.le_of_ble_eq_true (by kernel_rfl)) (by rw [V98_eq]; exact h)
theorem ok98:fnOk Tryz.prog 98=true:=by kernel_rfl
def V99 (a0:Option Addr) (a0n:Nat) (a0c:Nat) (a1:Option Addr) (a1n:Nat) (a1c:Nat) (a2:Option Nat) (w:World) (R:Value→World→Prop):Prop:=
 cl Tryz.prog 136 [.slice a0 a0n a0c] w fun e4 w1=>∃x3:Bool,e4=Ending.returned (.bool x3)∧
 gd (α:=Bool) (!(!x3)) (fun k5=>
  cl Tryz.prog 89 [.slice a1 a1n a1c] w1 fun e7 w2=>∃x6:Bool,e7=Ending.returned (.bool x6)∧
  k5 x6 w2) false w1 fun x8 w3=>
 pif (cond (!x3) true (!x8)) (
  R (.int .i64 1) w3) (
  lp (σ:=Int×Unit) (fun s13 w4 k12=>match s13 with
   | (v11,_)=>
   pif (decide (v11<(a1n:Int))) (
    ixA a1 a1n v11 1 fun p16=>
    ldI .i64 w4 p16 fun x17=>
    ∃x19:Int,∃w5:World,(Instr.lookup 168 (.map a2) (.int .i64 x17) false).run Tryz.prog w4=.ok (.int .i64 x19) w5∧
    pif (x19==0) (
     R (.int .i64 2) w5) (
     k12 ((IntKind.wrap .i64 (v11+1)),()) w5)) (
    R (.int .i64 0) w4)) (0,()) w3)
def An99:An:=.seq (.leaf) (.seq (.seq (.leaf) (.cond (.seq (.leaf) (.leaf)) (.leaf))) (.seq (.seq (.leaf) (.blk (.loop [(19,.one (.int .i64))] (.seq (.leaf) (.seq (.cond (.leaf) (.leaf)) (.seq (.blk (.seq (.leaf) (.seq (.leaf) (.cond (.seq (.leaf) (.leaf)) (.leaf))))) (.leaf))))))) (.seq (.leaf) (.leaf))))
theorem V99_eq (a0:Option Addr) (a0n:Nat) (a0c:Nat) (a1:Option Addr) (a1n:Nat) (a1c:Nat) (a2:Option Nat) (w:World) (R:Value→World→Prop):evF Tryz.prog Tryz.f99 An99 [.slice a0 a0n a0c,.slice a1 a1n a1c,.map a2] w R=V99 a0 a0n a0c a1 a1n a1c a2 w R:=by kernel_rfl
theorem V99_calls (a0:Option Addr) (a0n:Nat) (a0c:Nat) (a1:Option Addr) (a1n:Nat) (a1c:Nat) (a2:Option Nat) (w:World) (R:Value→World→Prop) (h:V99 a0 a0n a0c a1 a1n a1c a2 w R):Calls Tryz.prog 99 #[.slice a0 a0n a0c,.slice a1 a1n a1c,.map a2] w fun e w'=>∃v,e=.returned v∧R v w':=
 calls_of_ev (args:=[.slice a0 a0n a0c,.slice a1 a1n a1c,.map a2]) Tryz.func99 (Nat.le_of_ble_eq_true (by kernel_rfl)) (by rw [V99_eq]; exact h)
theorem ok99:fnOk Tryz.prog 99=true:=by kernel_rfl
def V54 (a0:Option Addr) (a0n:Nat) (a0c:Nat) (a1:Option Addr) (a1n:Nat) (a1c:Nat) (w:World) (R:Value→World→Prop):Prop:=
 alc w [.slice a0 a0n a0c] 79 fun b2 w1=>
 ldC w1 (⟨b2,0,none⟩:Addr) fun x4 x4n x4c=>
 cl Tryz.prog 98 [.slice x4 x4n x4c] w1 fun e6 w2=>∃x5:Option Nat,e6=Ending.returned (.map x5)∧
 alc w2 [.map none] 168 fun b7 w3=>
 st w3 ((⟨b7,0,none⟩:Addr).add 0) (.map x5) fun w4=>
 ldC w4 (⟨b2,0,none⟩:Addr) fun x9 x9n x9c=>
 ldM w4 (⟨b7,0,none⟩:Addr) fun x10=>
 cl Tryz.prog 99 [.slice x9 x9n x9c,.slice a1 a1n a1c,.map x10] w4 fun e12 w5=>∃x11:Int,e12=Ending.returned (.int .i64 x11)∧
 pif (x11 != 0) (
  R (.tuple #[.slice none 0 0,.int .i64 0,.int .i64 x11]) w5) (
  ∃x18:Option Nat,∃w6:World,(Instr.makeMap 168 none).run Tryz.prog w5=.ok (.map x18) w6∧
  lp (σ:=Int×Int×Unit) (fun s23 w7 k22=>match s23 with
   | (v20,v21,_)=>
   pif (decide (v21<(a1n:Int))) (
    ixA a1 a1n v21 1 fun p26=>
    ldI .i64 w7 p26 fun x27=>
    clF Tryz.prog (.func (.func 100) #[] #[.pointer (some (⟨b2,0,none⟩:Addr)),.pointer (some (⟨b7,0,none⟩:Addr))]) [.int .i64 x27] w7 fun e30 w8=>∃x29:Int,e30=Ending.returned (.int .i64 x29)∧
    ∃w9:World,(Instr.mapUpdate 168 (.map x18) (.int .i64 x27) (.int .i64 1)).run Tryz.prog w8=.ok () w9∧
    k22 ((if x29>v20 then x29 else v20),(IntKind.wrap .i64 (v21+1)),()) w9) (
    pif (v20==0) (
     R (.tuple #[.slice none 0 0,.int .i64 (-1),.int .i64 0]) w7) (
     ∃(q37:Addr) (w10:World),(Instr.range 168 (.map x18)).run Tryz.prog w7=.ok (.pointer (some q37)) w10∧
     lp (σ:=Int×Unit) (fun s40 w11 k39=>match s40 with
      | (v38,_)=>
      ∃(q42:Bool) (l43:List Value) (w12:World),(Instr.next (.pointer (some q37)) false 0).run Tryz.prog w11=.ok (.tuple (.bool q42 :: l43).toArray) w12∧
      pif q42 (
       ∃(x45 x46:Int) (w13:World),(Instr.entry (.pointer (some q37))).run Tryz.prog w12=.ok (.tuple #[.int .i64 x45,.int .i64 x46]) w13∧
       clF Tryz.prog (.func (.func 100) #[] #[.pointer (some (⟨b2,0,none⟩:Addr)),.pointer (some (⟨b7,0,none⟩:Addr))]) [.int .i64 x45] w13 fun e49 w14=>∃x48:Int,e49=Ending.returned (.int .i64 x48)∧
       pif (x48==v20) (
        k39 ((IntKind.wrap .i64 (v38+1)),()) w14) (
        k39 (v38,()) w14)) (
       ldC w12 (⟨b2,0,none⟩:Addr) fun x53 x53n x53c=>
       lp (σ:=Int×Int×Unit) (fun s57 w15 k56=>match s57 with
        | (v54,v55,_)=>
        jn (σ:=Int×Unit) (fun k59=>
         ldC w15 (⟨b2,0,none⟩:Addr) fun x62 x62n x62c=>
         ixA x62 x62n v55 3 fun p63=>
         ldI .i64 w15 (p63.add 0) fun x64=>
         ∃x66:Int,∃w17:World,(Instr.lookup 168 (.map x18) (.int .i64 (IntKind.wrap .i64 (0 - x64))) false).run Tryz.prog w15=.ok (.int .i64 x66) w17∧
         gd (α:=(Option Addr×Nat×Nat)) (!(x66==0)) (fun k67=>
          ldC w17 (⟨b2,0,none⟩:Addr) fun x68 x68n x68c=>
          k67 (x68,x68n,x68c) w17) (none,0,0) w17 fun x69 w18=>
         gd (α:=Addr) (!(x66==0)) (fun k70=>
          ixA x69.1 x69.2.1 v55 3 fun p71=>
          k70 p71 w18) ⟨0,0,none⟩ w18 fun x72 w19=>
         gd (α:=Int) (!(x66==0)) (fun k73=>
          ldI .i64 w19 (x72.add 1) fun x74=>
          k73 x74 w19) 0 w19 fun x75 w20=>
         pif (cond (x66==0) true (x75 != v20)) (
          k59 (v54,()) w20) (
          pif (v54==1) (
           ∃(q79:Addr) (w21:World),(Instr.range 168 (.map x18)).run Tryz.prog w20=.ok (.pointer (some q79)) w21∧
           lp (σ:=Int×(Option Addr×Nat×Nat)×Unit) (fun s83 w22 k82=>match s83 with
            | (v80,(v81,v81n,v81c),_)=>
            ∃(q85:Bool) (l86:List Value) (w23:World),(Instr.next (.pointer (some q79)) false 0).run Tryz.prog w22=.ok (.tuple (.bool q85 :: l86).toArray) w23∧
            pif q85 (
             ∃(x88 x89:Int) (w24:World),(Instr.entry (.pointer (some q79))).run Tryz.prog w23=.ok (.tuple #[.int .i64 x88,.int .i64 x89]) w24∧
             gd (α:=Int) (x88 != (IntKind.wrap .i64 (0 - x64))) (fun k91=>
              clF Tryz.prog (.func (.func 100) #[] #[.pointer (some (⟨b2,0,none⟩:Addr)),.pointer (some (⟨b7,0,none⟩:Addr))]) [.int .i64 x88] w24 fun e93 w25=>∃x92:Int,e93=Ending.returned (.int .i64 x92)∧
              k91 x92 w25) 0 w24 fun x94 w26=>
             pif (cond (x88 != (IntKind.wrap .i64 (0 - x64))) (decide (x94>0)) false) (
              alc w26 [.int .i64 x88] 3 fun b96 w27=>
              ∃(x97:Option Addr) (x97n x97c:Nat),∃w28:World,(Builtin.append_ #[49,49] 49 #[.slice v81 v81n v81c,.slice (some (⟨b96,0,none⟩:Addr)) 1 1]).run Tryz.prog w27=.ok (.slice x97 x97n x97c) w28∧
              clF Tryz.prog (.func (.func 100) #[] #[.pointer (some (⟨b2,0,none⟩:Addr)),.pointer (some (⟨b7,0,none⟩:Addr))]) [.int .i64 x88] w28 fun e100 w29=>∃x99:Int,e100=Ending.returned (.int .i64 x99)∧
              k82 ((if x99>v80 then x99 else v80),(x97,x97n,x97c),()) w29) (
              k82 (v80,(v81,v81n,v81c),()) w26)) (
             alc w23 [.int .i64 (IntKind.wrap .i64 (0 - x64))] 3 fun b102 w30=>
             cl Tryz.prog 47 [.slice v81 v81n v81c] w30 fun e104 w31=>∃(x103:Option Addr) (x103n x103c:Nat),e104=Ending.returned (.slice x103 x103n x103c)∧
             ∃(x105:Option Addr) (x105n x105c:Nat),∃w32:World,(Builtin.append_ #[49,49] 49 #[.slice (some (⟨b102,0,none⟩:Addr)) 1 1,.slice x103 x103n x103c]).run Tryz.prog w31=.ok (.slice x105 x105n x105c) w32∧
             R (.tuple #[.slice x105 x105n x105c,.int .i64 v80,.int .i64 0]) w32)) (0,(none,0,0),()) w21) (
           ∃w33:World,(Builtin.delete_ #[168,3] 0 #[.map x18,.int .i64 (IntKind.wrap .i64 (0 - x64))]).run Tryz.prog w20=.ok (.tuple #[]) w33∧
           ldC w33 (⟨b2,0,none⟩:Addr) fun x109 x109n x109c=>
           ixA x109 x109n v55 3 fun p110=>
           ldC w33 (p110.add 2) fun x111 x111n x111c=>
           lp (σ:=Int×Int×Unit) (fun s115 w34 k114=>match s115 with
            | (v112,v113,_)=>
            pif (decide (v113<(x111n:Int))) (
             jn (σ:=Int×Unit) (fun k118=>
              ixA x111 x111n v113 1 fun p121=>
              ldI .i64 w34 p121 fun x122=>
              ldC w34 (⟨b2,0,none⟩:Addr) fun x124 x124n x124c=>
              ixA x124 x124n v55 3 fun p125=>
              ldI .i64 w34 (p125.add 0) fun x126=>
              gd (α:=Int) (x122 != x126) (fun k127=>
               ∃x128:Int,∃w36:World,(Instr.lookup 168 (.map x18) (.int .i64 x122) false).run Tryz.prog w34=.ok (.int .i64 x128) w36∧
               k127 x128 w36) 0 w34 fun x129 w37=>
              pif (cond (x122 != x126) (x129==0) false) (
               ∃w38:World,(Instr.mapUpdate 168 (.map x18) (.int .i64 x122) (.int .i64 1)).run Tryz.prog w37=.ok () w38∧
               clF Tryz.prog (.func (.func 100) #[] #[.pointer (some (⟨b2,0,none⟩:Addr)),.pointer (some (⟨b7,0,none⟩:Addr))]) [.int .i64 x122] w38 fun e133 w39=>∃x132:Int,e133=Ending.returned (.int .i64 x132)∧
               pif (x132==v20) (
                k118 ((IntKind.wrap .i64 (v112+1)),()) w39) (
                k118 (v112,()) w39)) (
               k118 (v112,()) w37)) fun s119 w35=>match s119 with
             | (v117,_)=>
             k114 (v117,(IntKind.wrap .i64 (v113+1)),()) w35) (
             k59 (v112,()) w34)) ((IntKind.wrap .i64 (v54 - 1)),0,()) w33))) fun s60 w16=>match s60 with
        | (v58,_)=>
        k56 (v58,(IntKind.wrap .i64 (v55 - 1)),()) w16) (v38,(IntKind.wrap .i64 ((x53n:Int) - 1)),()) w12)) (0,()) w10))) (0,0,()) w6)
def An54:An:=.seq (.leaf) (.seq (.leaf) (.seq (.seq (.leaf) (.seq (.leaf) (.cond (.seq (.leaf) (.leaf)) (.leaf)))) (.seq (.leaf) (.seq (.leaf) (.seq (.leaf) (.seq (.seq (.leaf) (.blk (.loop [(10,.one (.int .i64)),(35,.one (.int .i64))] (.seq (.leaf) (.seq (.cond (.leaf) (.leaf)) (.seq (.blk (.seq (.leaf) (.seq (.leaf) (.leaf)))) (.leaf))))))) (.seq (.seq (.leaf) (.cond (.seq (.leaf) (.leaf)) (.leaf))) (.seq (.leaf) (.seq (.seq (.leaf) (.blk (.loop [(14,.one (.int .i64))] (.seq (.leaf) (.seq (.cond (.leaf) (.leaf)) (.blk (.seq (.leaf) (.seq (.leaf) (.cond (.leaf) (.leaf)))))))))) (.seq (.leaf) (.seq (.seq (.leaf) (.blk (.loop [(14,.one (.int .i64)),(17,.one (.int .i64))] (.seq (.join [(14,.one (.int .i64))] (.blk (.seq (.leaf) (.seq (.seq (.leaf) (.cond (.leaf) (.leaf))) (.seq (.seq (.leaf) (.cond (.leaf) (.leaf))) (.seq (.leaf) (.seq (.leaf) (.seq (.leaf) (.blk (.loop [(14,.one (.int .i64)),(98,.one (.int .i64))] (.seq (.leaf) (.seq (.cond (.leaf) (.leaf)) (.seq (.join [(14,.one (.int .i64))] (.blk (.seq (.leaf) (.seq (.leaf) (.cond (.seq (.leaf) (.seq (.leaf) (.cond (.leaf) (.leaf)))) (.leaf)))))) (.leaf)))))))))))))) (.leaf))))) (.seq (.leaf) (.seq (.seq (.leaf) (.blk (.loop [(5,.one (.int .i64)),(20,.one (.slc))] (.seq (.leaf) (.seq (.cond (.leaf) (.leaf)) (.blk (.seq (.leaf) (.seq (.leaf) (.cond (.seq (.leaf) (.leaf)) (.leaf)))))))))) (.seq (.leaf) (.leaf)))))))))))))))
theorem V54_eq (a0:Option Addr) (a0n:Nat) (a0c:Nat) (a1:Option Addr) (a1n:Nat) (a1c:Nat) (w:World) (R:Value→World→Prop):evF Tryz.prog Tryz.f54 An54 [.slice a0 a0n a0c,.slice a1 a1n a1c] w R=V54 a0 a0n a0c a1 a1n a1c w R:=by kernel_rfl
theorem V54_calls (a0:Option Addr) (a0n:Nat) (a0c:Nat) (a1:Option Addr) (a1n:Nat) (a1c:Nat) (w:World) (R:Value→World→Prop) (h:V54 a0 a0n a0c a1 a1n a1c w R):Calls Tryz.prog 54 #[.slice a0 a0n a0c,.slice a1 a1n a1c] w fun e w'=>∃v,e=.returned v∧R v w':=
 calls_of_ev (args:=[.slice a0 a0n a0c,.slice a1 a1n a1c]) Tryz.func54 (Nat.le_of_ble_eq_true (by kernel_rfl)) (by rw [V54_eq]; exact h)
theorem ok54:fnOk Tryz.prog 54=true:=by kernel_rfl
def V100 (a0:Int) (c0:Addr) (c1:Addr) (w:World) (R:Value→World→Prop):Prop:=
 ldC w c0 fun x3 x3n x3c=>
 ldM w c1 fun x4=>
 ∃x5:Int,∃w1:World,(Instr.lookup 168 (.map x4) (.int .i64 a0) false).run Tryz.prog w=.ok (.int .i64 x5) w1∧
 ixA x3 x3n (IntKind.wrap .i64 (x5 - 1)) 3 fun p6=>
 ldI .i64 w1 (p6.add 1) fun x7=>
 R (.int .i64 x7) w1
def An100:An:=.seq (.leaf) (.seq (.leaf) (.leaf))
theorem V100_eq (a0:Int) (c0:Addr) (c1:Addr) (w:World) (R:Value→World→Prop):evF Tryz.prog Tryz.f100 An100 [.int .i64 a0,.pointer (some c0),.pointer (some c1)] w R=V100 a0 c0 c1 w R:=by kernel_rfl
theorem V100_calls (a0:Int) (c0:Addr) (c1:Addr) (w:World) (R:Value→World→Prop) (h:V100 a0 c0 c1 w R):Calls Tryz.prog 100 #[.int .i64 a0,.pointer (some c0),.pointer (some c1)] w fun e w'=>∃v,e=.returned v∧R v w':=
 calls_of_ev (args:=[.int .i64 a0,.pointer (some c0),.pointer (some c1)]) Tryz.func100 (Nat.le_of_ble_eq_true (by kernel_rfl)) (by rw [V100_eq]; exact h)
theorem ok100:fnOk Tryz.prog 100=true:=by kernel_rfl
def V55 (a0:Option Addr) (a0n:Nat) (a0c:Nat) (a1:Option Addr) (a1n:Nat) (a1c:Nat) (w:World) (R:Value→World→Prop):Prop:=
 alc w [.slice a0 a0n a0c] 79 fun b2 w1=>
 ldC w1 (⟨b2,0,none⟩:Addr) fun x4 x4n x4c=>
 cl Tryz.prog 98 [.slice x4 x4n x4c] w1 fun e6 w2=>∃x5:Option Nat,e6=Ending.returned (.map x5)∧
 alc w2 [.map none] 168 fun b7 w3=>
 st w3 ((⟨b7,0,none⟩:Addr).add 0) (.map x5) fun w4=>
 ldC w4 (⟨b2,0,none⟩:Addr) fun x9 x9n x9c=>
 ldM w4 (⟨b7,0,none⟩:Addr) fun x10=>
 cl Tryz.prog 99 [.slice x9 x9n x9c,.slice a1 a1n a1c,.map x10] w4 fun e12 w5=>∃x11:Int,e12=Ending.returned (.int .i64 x11)∧
 pif (x11 != 0) (
  R (.tuple #[.slice none 0 0,.int .i64 x11]) w5) (
  ∃x16:Option Nat,∃w6:World,(Instr.makeMap 168 none).run Tryz.prog w5=.ok (.map x16) w6∧
  alc w6 [.map none] 168 fun b17 w7=>
  st w7 ((⟨b17,0,none⟩:Addr).add 0) (.map x16) fun w8=>
  lp (σ:=Int×Unit) (fun s21 w9 k20=>match s21 with
   | (v19,_)=>
   pif (decide (v19<(a1n:Int))) (
    ixA a1 a1n v19 1 fun p24=>
    ldI .i64 w9 p24 fun x25=>
    ldM w9 (⟨b17,0,none⟩:Addr) fun x27=>
    ∃w10:World,(Instr.mapUpdate 168 (.map x27) (.int .i64 x25) (.int .i64 1)).run Tryz.prog w9=.ok () w10∧
    k20 ((IntKind.wrap .i64 (v19+1)),()) w10) (
    ∃x30:Option Nat,∃w11:World,(Instr.makeMap 168 none).run Tryz.prog w9=.ok (.map x30) w11∧
    alc w11 [.map none] 168 fun b31 w12=>
    st w12 ((⟨b31,0,none⟩:Addr).add 0) (.map x30) fun w13=>
    alc w13 [.nilFunc] 77 fun b33 w14=>
    st w14 ((⟨b33,0,none⟩:Addr).add 0) (.func (.func 101) #[] #[.pointer (some (⟨b31,0,none⟩:Addr)),.pointer (some (⟨b2,0,none⟩:Addr)),.pointer (some (⟨b7,0,none⟩:Addr)),.pointer (some (⟨b17,0,none⟩:Addr)),.pointer (some (⟨b33,0,none⟩:Addr))]) fun w15=>
    lp (σ:=(Option Addr×Nat×Nat)×Int×Unit) (fun s40 w16 k39=>match s40 with
     | ((v37,v37n,v37c),v38,_)=>
     pif (decide (v38<(a1n:Int))) (
      jn (σ:=(Option Addr×Nat×Nat)×Unit) (fun k43=>
       ixA a1 a1n v38 1 fun p46=>
       ldI .i64 w16 p46 fun x47=>
       ldM w16 (⟨b17,0,none⟩:Addr) fun x49=>
       ∃x50:Int,∃w18:World,(Instr.lookup 168 (.map x49) (.int .i64 x47) false).run Tryz.prog w16=.ok (.int .i64 x50) w18∧
       pif (x50==2) (
        k43 ((v37,v37n,v37c),()) w18) (
        jn (σ:=(Option Addr×Nat×Nat)×Unit) (fun k52=>
         gd (α:=(Option Addr×Nat×Nat)) (!(v38==0)) (fun k55=>
          ldC w18 (⟨b2,0,none⟩:Addr) fun x56 x56n x56c=>
          k55 (x56,x56n,x56c) w18) (none,0,0) w18 fun x57 w20=>
         gd (α:=(Option Nat)) (!(v38==0)) (fun k58=>
          ldM w20 (⟨b7,0,none⟩:Addr) fun x59=>
          k58 x59 w20) none w20 fun x60 w21=>
         gd (α:=Int) (!(v38==0)) (fun k61=>
          ∃x62:Int,∃w22:World,(Instr.lookup 168 (.map x60) (.int .i64 x47) false).run Tryz.prog w21=.ok (.int .i64 x62) w22∧
          k61 x62 w22) 0 w21 fun x63 w23=>
         gd (α:=Addr) (!(v38==0)) (fun k64=>
          ixA x57.1 x57.2.1 (IntKind.wrap .i64 (x63 - 1)) 3 fun p65=>
          k64 p65 w23) ⟨0,0,none⟩ w23 fun x66 w24=>
         gd (α:=Int) (!(v38==0)) (fun k67=>
          ldI .i64 w24 (x66.add 1) fun x68=>
          k67 x68 w24) 0 w24 fun x69 w25=>
         gd (α:=Value) ((!(v38==0))&&(decide (x69>0))) (fun k70=>
          ldV w25 (⟨b33,0,none⟩:Addr) fun x71=>
          k70 x71 w25) undef w25 fun x72 w26=>
         gd (α:=Bool) ((!(v38==0))&&(decide (x69>0))) (fun k73=>
          clF Tryz.prog (x72) [.int .i64 x47] w26 fun e75 w27=>∃x74:Bool,e75=Ending.returned (.bool x74)∧
          k73 x74 w27) false w26 fun x76 w28=>
         pif (cond (v38==0) true (cond (decide (x69>0)) (!x76) false)) (
          alc w28 [.int .i64 x47] 3 fun b78 w29=>
          ∃(x79:Option Addr) (x79n x79c:Nat),∃w30:World,(Builtin.append_ #[49,49] 49 #[.slice v37 v37n v37c,.slice (some (⟨b78,0,none⟩:Addr)) 1 1]).run Tryz.prog w29=.ok (.slice x79 x79n x79c) w30∧
          k52 ((x79,x79n,x79c),()) w30) (
          k52 ((v37,v37n,v37c),()) w28)) fun s53 w19=>match s53 with
        | ((v51,v51n,v51c),_)=>
        ldM w19 (⟨b17,0,none⟩:Addr) fun x81=>
        ∃w31:World,(Instr.mapUpdate 168 (.map x81) (.int .i64 x47) (.int .i64 2)).run Tryz.prog w19=.ok () w31∧
        k43 ((v51,v51n,v51c),()) w31)) fun s44 w17=>match s44 with
      | ((v42,v42n,v42c),_)=>
      k39 ((v42,v42n,v42c),(IntKind.wrap .i64 (v38+1)),()) w17) (
      R (.tuple #[.slice v37 v37n v37c,.int .i64 0]) w16)) ((none,0,0),0,()) w15)) (0,()) w8)
def An55:An:=.seq (.leaf) (.seq (.leaf) (.seq (.seq (.leaf) (.seq (.leaf) (.cond (.seq (.leaf) (.leaf)) (.leaf)))) (.seq (.leaf) (.seq (.seq (.leaf) (.blk (.loop [(28,.one (.int .i64))] (.seq (.leaf) (.seq (.cond (.leaf) (.leaf)) (.seq (.blk (.seq (.leaf) (.leaf))) (.leaf))))))) (.seq (.leaf) (.seq (.leaf) (.seq (.leaf) (.seq (.leaf) (.seq (.seq (.leaf) (.blk (.loop [(13,.one (.slc)),(39,.one (.int .i64))] (.seq (.leaf) (.seq (.cond (.leaf) (.leaf)) (.seq (.join [(13,.one (.slc))] (.blk (.seq (.leaf) (.seq (.seq (.leaf) (.cond (.leaf) (.leaf))) (.seq (.join [(13,.one (.slc))] (.seq (.leaf) (.cond (.leaf) (.leaf)))) (.leaf)))))) (.leaf))))))) (.seq (.leaf) (.leaf)))))))))))
theorem V55_eq (a0:Option Addr) (a0n:Nat) (a0c:Nat) (a1:Option Addr) (a1n:Nat) (a1c:Nat) (w:World) (R:Value→World→Prop):evF Tryz.prog Tryz.f55 An55 [.slice a0 a0n a0c,.slice a1 a1n a1c] w R=V55 a0 a0n a0c a1 a1n a1c w R:=by kernel_rfl
theorem V55_calls (a0:Option Addr) (a0n:Nat) (a0c:Nat) (a1:Option Addr) (a1n:Nat) (a1c:Nat) (w:World) (R:Value→World→Prop) (h:V55 a0 a0n a0c a1 a1n a1c w R):Calls Tryz.prog 55 #[.slice a0 a0n a0c,.slice a1 a1n a1c] w fun e w'=>∃v,e=.returned v∧R v w':=
 calls_of_ev (args:=[.slice a0 a0n a0c,.slice a1 a1n a1c]) Tryz.func55 (Nat.le_of_ble_eq_true (by kernel_rfl)) (by rw [V55_eq]; exact h)
theorem ok55:fnOk Tryz.prog 55=true:=by kernel_rfl
def V101 (a0:Int) (c0:Addr) (c1:Addr) (c2:Addr) (c3:Addr) (c4:Addr) (w:World) (R:Value→World→Prop):Prop:=
 jn (σ:=Unit) (fun k2=>
  ldM w c0 fun x5=>
  ∃x6:Int,∃w2:World,(Instr.lookup 168 (.map x5) (.int .i64 a0) false).run Tryz.prog w=.ok (.int .i64 x6) w2∧
  pif (x6==0) (
   ldM w2 c0 fun x8=>
   ∃w3:World,(Instr.mapUpdate 168 (.map x8) (.int .i64 a0) (.int .i64 1)).run Tryz.prog w2=.ok () w3∧
   ldC w3 c1 fun x10 x10n x10c=>
   ldM w3 c2 fun x11=>
   ∃x12:Int,∃w4:World,(Instr.lookup 168 (.map x11) (.int .i64 a0) false).run Tryz.prog w3=.ok (.int .i64 x12) w4∧
   ixA x10 x10n (IntKind.wrap .i64 (x12 - 1)) 3 fun p13=>
   ldI .i64 w4 (p13.add 0) fun x14=>
   ldI .i64 w4 (p13.add 1) fun x15=>
   ldC w4 (p13.add 2) fun x16 x16n x16c=>
   alc w4 [.int .i64 0,.int .i64 0,.slice none 0 0] 164 fun b17 w5=>
   st w5 ((⟨b17,0,none⟩:Addr).add 0) (.int .i64 x14) fun w6=>
   st w6 ((⟨b17,0,none⟩:Addr).add 1) (.int .i64 x15) fun w7=>
   st w7 ((⟨b17,0,none⟩:Addr).add 2) (.slice x16 x16n x16c) fun w8=>
   jn (σ:=Unit) (fun k18=>
    ldC w8 ((⟨b17,0,none⟩:Addr).add 2) fun x21 x21n x21c=>
    pif ((x21n:Int)==0) (
     ldM w8 c0 fun x23=>
     ∃w10:World,(Instr.mapUpdate 168 (.map x23) (.int .i64 a0) (.int .i64 2)).run Tryz.prog w8=.ok () w10∧
     k18 (()) w10) (
     k18 (()) w8)) fun s19 w9=>match s19 with
   | (_)=>
   ldC w9 ((⟨b17,0,none⟩:Addr).add 2) fun x25 x25n x25c=>
   lp (σ:=Int×Unit) (fun s28 w11 k27=>match s28 with
    | (v26,_)=>
    pif (decide (v26<(x25n:Int))) (
     ixA x25 x25n v26 1 fun p31=>
     ldI .i64 w11 p31 fun x32=>
     ldI .i64 w11 ((⟨b17,0,none⟩:Addr).add 0) fun x34=>
     gd (α:=(Option Addr×Nat×Nat)) (x32 != x34) (fun k35=>
      ldC w11 c1 fun x36 x36n x36c=>
      k35 (x36,x36n,x36c) w11) (none,0,0) w11 fun x37 w12=>
     gd (α:=(Option Nat)) (x32 != x34) (fun k38=>
      ldM w12 c2 fun x39=>
      k38 x39 w12) none w12 fun x40 w13=>
     gd (α:=Int) (x32 != x34) (fun k41=>
      ∃x42:Int,∃w14:World,(Instr.lookup 168 (.map x40) (.int .i64 x32) false).run Tryz.prog w13=.ok (.int .i64 x42) w14∧
      k41 x42 w14) 0 w13 fun x43 w15=>
     gd (α:=Addr) (x32 != x34) (fun k44=>
      ixA x37.1 x37.2.1 (IntKind.wrap .i64 (x43 - 1)) 3 fun p45=>
      k44 p45 w15) ⟨0,0,none⟩ w15 fun x46 w16=>
     gd (α:=Int) (x32 != x34) (fun k47=>
      ldI .i64 w16 (x46.add 1) fun x48=>
      k47 x48 w16) 0 w16 fun x49 w17=>
     gd (α:=(Option Nat)) (cond (x32 != x34) (decide (x49>0)) false) (fun k50=>
      ldM w17 c3 fun x51=>
      k50 x51 w17) none w17 fun x52 w18=>
     gd (α:=Int) (cond (x32 != x34) (decide (x49>0)) false) (fun k53=>
      ∃x54:Int,∃w19:World,(Instr.lookup 168 (.map x52) (.int .i64 x32) false).run Tryz.prog w18=.ok (.int .i64 x54) w19∧
      k53 x54 w19) 0 w18 fun x55 w20=>
     gd (α:=Value) (cond (cond (x32 != x34) (decide (x49>0)) false) (x55==0) false) (fun k56=>
      ldV w20 c4 fun x57=>
      k56 x57 w20) undef w20 fun x58 w21=>
     gd (α:=Bool) (cond (cond (x32 != x34) (decide (x49>0)) false) (x55==0) false) (fun k59=>
      clF Tryz.prog (x58) [.int .i64 x32] w21 fun e61 w22=>∃x60:Bool,e61=Ending.returned (.bool x60)∧
      k59 x60 w22) false w21 fun x62 w23=>
     pif (cond (cond (cond (x32 != x34) (decide (x49>0)) false) (x55==0) false) (!x62) false) (
      ldM w23 c0 fun x64=>
      ∃w24:World,(Instr.mapUpdate 168 (.map x64) (.int .i64 a0) (.int .i64 2)).run Tryz.prog w23=.ok () w24∧
      k2 (()) w24) (
      k27 ((IntKind.wrap .i64 (v26+1)),()) w23)) (
     k2 (()) w11)) (0,()) w9) (
   k2 (()) w2)) fun s3 w1=>match s3 with
 | (_)=>
 ldM w1 c0 fun x67=>
 ∃x68:Int,∃w25:World,(Instr.lookup 168 (.map x67) (.int .i64 a0) false).run Tryz.prog w1=.ok (.int .i64 x68) w25∧
 R (.bool (x68==1)) w25
def An101:An:=.seq (.leaf) (.seq (.join [] (.seq (.leaf) (.cond (.seq (.leaf) (.seq (.leaf) (.seq (.join [] (.seq (.leaf) (.cond (.leaf) (.leaf)))) (.seq (.leaf) (.blk (.loop [(33,.one (.int .i64))] (.seq (.leaf) (.seq (.cond (.leaf) (.leaf)) (.seq (.blk (.seq (.leaf) (.seq (.leaf) (.cond (.seq (.leaf) (.leaf)) (.leaf))))) (.leaf)))))))))) (.leaf)))) (.seq (.leaf) (.leaf)))
theorem V101_eq (a0:Int) (c0:Addr) (c1:Addr) (c2:Addr) (c3:Addr) (c4:Addr) (w:World) (R:Value→World→Prop):evF Tryz.prog Tryz.f101 An101 [.int .i64 a0,.pointer (some c0),.pointer (some c1),.pointer (some c2),.pointer (some c3),.pointer (some c4)] w R=V101 a0 c0 c1 c2 c3 c4 w R:=by kernel_rfl
theorem V101_calls (a0:Int) (c0:Addr) (c1:Addr) (c2:Addr) (c3:Addr) (c4:Addr) (w:World) (R:Value→World→Prop) (h:V101 a0 c0 c1 c2 c3 c4 w R):Calls Tryz.prog 101 #[.int .i64 a0,.pointer (some c0),.pointer (some c1),.pointer (some c2),.pointer (some c3),.pointer (some c4)] w fun e w'=>∃v,e=.returned v∧R v w':=
 calls_of_ev (args:=[.int .i64 a0,.pointer (some c0),.pointer (some c1),.pointer (some c2),.pointer (some c3),.pointer (some c4)]) Tryz.func101 (Nat.le_of_ble_eq_true (by kernel_rfl)) (by rw [V101_eq]; exact h)
theorem ok101:fnOk Tryz.prog 101=true:=by kernel_rfl
def V182 (a0:Option Addr) (a0n:Nat) (a0c:Nat) (a1:Int) (w:World) (R:Value→World→Prop):Prop:=
 cl Tryz.prog 90 [.int .i64 a1] w fun e4 w1=>∃x3:Bool,e4=Ending.returned (.bool x3)∧
 gd (α:=Bool) x3 (fun k5=>
  cl Tryz.prog 186 [.slice a0 a0n a0c,.int .i64 a1] w1 fun e7 w2=>∃x6:Bool,e7=Ending.returned (.bool x6)∧
  k5 x6 w2) false w1 fun x8 w3=>
 R (.bool (cond x3 x8 false)) w3
def An182:An:=.seq (.leaf) (.seq (.leaf) (.leaf))
theorem V182_eq (a0:Option Addr) (a0n:Nat) (a0c:Nat) (a1:Int) (w:World) (R:Value→World→Prop):evF Tryz.prog Tryz.f182 An182 [.slice a0 a0n a0c,.int .i64 a1] w R=V182 a0 a0n a0c a1 w R:=by kernel_rfl
theorem V182_calls (a0:Option Addr) (a0n:Nat) (a0c:Nat) (a1:Int) (w:World) (R:Value→World→Prop) (h:V182 a0 a0n a0c a1 w R):Calls Tryz.prog 182 #[.slice a0 a0n a0c,.int .i64 a1] w fun e w'=>∃v,e=.returned v∧R v w':=
 calls_of_ev (args:=[.slice a0 a0n a0c,.int .i64 a1]) Tryz.func182 (Nat.le_of_ble_eq_true (by kernel_rfl)) (by rw [V182_eq]; exact h)
theorem ok182:fnOk Tryz.prog 182=true:=by kernel_rfl
def V186 (a0:Option Addr) (a0n:Nat) (a0c:Nat) (a1:Int) (w:World) (R:Value→World→Prop):Prop:=
 cl Tryz.prog 187 [.slice a0 a0n a0c,.int .i64 a1] w fun e4 w1=>∃x3:Int,e4=Ending.returned (.int .i64 x3)∧
 R (.bool (decide (x3≥0))) w1
def An186:An:=.seq (.leaf) (.seq (.leaf) (.leaf))
theorem V186_eq (a0:Option Addr) (a0n:Nat) (a0c:Nat) (a1:Int) (w:World) (R:Value→World→Prop):evF Tryz.prog Tryz.f186 An186 [.slice a0 a0n a0c,.int .i64 a1] w R=V186 a0 a0n a0c a1 w R:=by kernel_rfl
theorem V186_calls (a0:Option Addr) (a0n:Nat) (a0c:Nat) (a1:Int) (w:World) (R:Value→World→Prop) (h:V186 a0 a0n a0c a1 w R):Calls Tryz.prog 186 #[.slice a0 a0n a0c,.int .i64 a1] w fun e w'=>∃v,e=.returned v∧R v w':=
 calls_of_ev (args:=[.slice a0 a0n a0c,.int .i64 a1]) Tryz.func186 (Nat.le_of_ble_eq_true (by kernel_rfl)) (by rw [V186_eq]; exact h)
theorem ok186:fnOk Tryz.prog 186=true:=by kernel_rfl
def V187 (a0:Option Addr) (a0n:Nat) (a0c:Nat) (a1:Int) (w:World) (R:Value→World→Prop):Prop:=
 lp (σ:=Int×Unit) (fun s5 w1 k4=>match s5 with
  | (v3,_)=>
  pif (decide (v3<(a0n:Int))) (
   ixA a0 a0n v3 1 fun p9=>
   ldI .i64 w1 p9 fun x10=>
   pif (a1==x10) (
    R (.int .i64 v3) w1) (
    k4 ((IntKind.wrap .i64 (v3+1)),()) w1)) (
   R (.int .i64 (-1)) w1)) (0,()) w
def An187:An:=.seq (.leaf) (.seq (.seq (.leaf) (.blk (.loop [(8,.one (.int .i64))] (.seq (.leaf) (.seq (.cond (.leaf) (.leaf)) (.seq (.blk (.seq (.leaf) (.seq (.leaf) (.cond (.seq (.leaf) (.leaf)) (.leaf))))) (.leaf))))))) (.seq (.leaf) (.leaf)))
theorem V187_eq (a0:Option Addr) (a0n:Nat) (a0c:Nat) (a1:Int) (w:World) (R:Value→World→Prop):evF Tryz.prog Tryz.f187 An187 [.slice a0 a0n a0c,.int .i64 a1] w R=V187 a0 a0n a0c a1 w R:=by kernel_rfl
theorem V187_calls (a0:Option Addr) (a0n:Nat) (a0c:Nat) (a1:Int) (w:World) (R:Value→World→Prop) (h:V187 a0 a0n a0c a1 w R):Calls Tryz.prog 187 #[.slice a0 a0n a0c,.int .i64 a1] w fun e w'=>∃v,e=.returned v∧R v w':=
 calls_of_ev (args:=[.slice a0 a0n a0c,.int .i64 a1]) Tryz.func187 (Nat.le_of_ble_eq_true (by kernel_rfl)) (by rw [V187_eq]; exact h)
theorem ok187:fnOk Tryz.prog 187=true:=by kernel_rfl
end Go.Proofs.YtmhjehodfggleaaGreat.T

/- Entries in memory; literals, places and reasons. -/

set_option linter.unusedVariables false
set_option linter.unusedSimpArgs false
set_option maxRecDepth 100000
namespace Go.Proofs.YtmhjehodfggleaaGreat.Learn
open Go Go.Proofs.YtmhjehodfggleaaGreat.Vc Go.Proofs.YtmhjehodfggleaaGreat.T
open Go.Proofs.YtmhjehodfggleaaGreat.Apart (RdL own_rdl wrap_nat getE own_len copy same take_snoc Sl sv)
abbrev I (n:Int):Value:=.int .i64 n
abbrev i64 (x:Int):Prop:=-9223372036854775808≤x∧x≤9223372036854775807
def neg (x:Int):Int:=IntKind.wrap .i64 (0 - x)
structure En where
 lit:Int
 lev:Int
 rs:List Int
structure RdE (w:World) (p:Option Addr) (n:Nat) (es:List En):Prop where
 len:es.length=n
 cell:∀(i:Nat) (x:En),es[i]?=some x→∃a q rn rc,p=some a∧w.cell? ((a.add (i*3)).add 0)=some (I x.lit)∧w.cell? ((a.add (i*3)).add 1)=some (I x.lev)∧w.cell? ((a.add (i*3)).add 2)=some (.slice q rn rc)∧RdL w q rn x.rs
def At (w:World) (a:Addr) (x:En):Prop:=∃q rn rc,w.cell? (a.add 0)=some (I x.lit)∧w.cell? (a.add 1)=some (I x.lev)∧w.cell? (a.add 2)=some (.slice q rn rc)∧RdL w q rn x.rs
section
variable {w w':World} {p:Option Addr} {n c:Nat} {es:List En}
theorem RdE.keep0 (h:RdE w p n es) (hk:Keep None w w'):RdE w' p n es:=⟨h.len,fun i x hx=>by
 obtain ⟨a,q,rn,rc,e,c0,c1,c2,hr⟩:=h.cell i x hx
 exact ⟨a,q,rn,rc,e,hk.cell c0 fun h=>h,hk.cell c1 fun h=>h,hk.cell c2 fun h=>h,hr.keep0 hk⟩⟩
theorem RdE.take (h:RdE w p n es) {m:Nat} (hm:m≤n):RdE w p m (es.take m):=⟨by have:=h.len; simp; omega,fun i x hx=>by
 rw [List.getElem?_take] at hx
 split at hx
 ·exact h.cell i x hx
 ·cases hx⟩
theorem RdE.ix (h:RdE w p n es) {i:Nat} {x:En} (hx:es[i]?=some x) {K:Addr→Prop} (hk:∀a,At w a x→K a):ixA p n (i:Int) 3 K:=by
 have hl:=h.len
 have hi:=(List.getElem?_eq_some_iff.1 hx).1
 obtain ⟨a,q,rn,rc,rfl,c0,c1,c2,hr⟩:=h.cell i x hx
 refine ⟨by omega,by omega,?_⟩
 show K _
 rw [Int.toNat_natCast]
 exact hk _ ⟨q,rn,rc,c0,c1,c2,hr⟩
theorem At.keep0 {a:Addr} {x:En} (h:At w a x) (hk:Keep None w w'):At w' a x:=by
 obtain ⟨q,rn,rc,c0,c1,c2,hr⟩:=h
 exact ⟨q,rn,rc,hk.cell c0 fun h=>h,hk.cell c1 fun h=>h,hk.cell c2 fun h=>h,hr.keep0 hk⟩
def Ans (w:World) (v0:Value) (v:Value) (w':World):Prop:=v=v0∧Keep None w w'
theorem ans_of {k:FuncId} {args:Array Value} {v0:Value} (h:Calls Tryz.prog k args w fun e w'=>∃v,e=.returned v∧Ans w v0 v w'):Calls Tryz.prog k args w fun e w'=>e=.returned v0∧Keep None w w':=
 h.mono fun e w' ⟨v,he,hv,hk⟩=>⟨by rw [he,hv],hk⟩
def fl (l:Int):Bool:=decide (l≠0)&&(decide (-1048576≤l)&&decide (l≤1048576))
theorem fl_iff {l:Int} : fl l=true↔l≠0∧-1048576≤l∧l≤1048576:=by
 unfold fl
 simp only [Bool.and_eq_true,decide_eq_true_eq]
theorem fl33 (l:Int):Calls Tryz.prog 90 #[I l] w fun e w'=>e=.returned (.bool (fl l))∧Keep None w w':=by
 refine ans_of (V90_calls l w (Ans w _) ?_)
 unfold V90
 refine ⟨?_,Keep.refl _ _⟩
 congr 1
 rw [Bool.eq_iff_iff,fl_iff]
 simp [and_assoc]
theorem all_snoc {cs:List Int} {i:Nat} {x:Int} (hx:cs[i]?=some x):(cs.take (i+1)).all fl=((cs.take i).all fl&&fl x):=by
 rw [take_snoc hx,List.all_append]
 simp
theorem all_no {cs:List Int} {x:Int} (hx:x∈cs) (h:fl x=false):cs.all fl=false:=by
 rw [List.all_eq_false]
 exact ⟨x,hx,by rw [h]; decide⟩
theorem sound39 {cs:List Int} (h:RdL w p n cs) (hn:n≤1099511627776):Calls Tryz.prog 89 #[.slice p n c] w fun e w'=>e=.returned (.bool (cs.all fl))∧Keep None w w':=by
 refine ans_of (V89_calls p n c w (Ans w _) ?_)
 unfold V89
 have hl:=h.len
 refine lp_of (fun s w1=>∃i:Nat,s.1=(i:Int)∧i≤n∧(cs.take i).all fl=true∧Keep None w w1) (fun s _=>(n - s.1).toNat) ⟨0,rfl,Nat.zero_le _,rfl,Keep.refl _ _⟩ ?_
 rintro ⟨i',⟨⟩⟩ w1 ⟨i,rfl,hi,hall,k1⟩
 simp only []
 refine pif_of (fun hlt=>?_) fun hge=>?_
 ·have hlt:i<n:=by simpa using hlt
  rw [wrap_nat i (by omega)]
  refine (h.keep0 k1).ix hlt fun a x hx ha=>ldI_of ha (cl_of ok90 (fl33 x) fun e w2 ⟨he,k2⟩=>⟨_,he,?_⟩)
  refine pif_of (fun hb=>⟨?_,k1.then0 k2⟩) fun hb=>?_
  ·rw [all_no (List.mem_of_getElem? hx) (by simpa using hb)]
  ·exact ⟨⟨i+1,rfl,hlt,by rw [all_snoc hx,hall]; simpa using hb,k1.then0 k2⟩,by omega⟩
 ·have hge:i=n:=by simp at hge; omega
  subst hge
  rw [←hl,List.take_length] at hall
  exact ⟨by rw [hall],k1⟩
end
end Go.Proofs.YtmhjehodfggleaaGreat.Learn

/- What makes a trail: the document's Formed. -/

set_option linter.unusedVariables false
set_option linter.unusedSimpArgs false
set_option maxRecDepth 100000
namespace Go.Proofs.YtmhjehodfggleaaGreat.Learn
open Go Go.Proofs.YtmhjehodfggleaaGreat.Vc Go.Proofs.YtmhjehodfggleaaGreat.T
open Go.Proofs.YtmhjehodfggleaaGreat.Apart (RdL own_rdl wrap_nat getE own_len copy same take_snoc Sl sv)
section
variable {w w':World} {p:Option Addr} {n c:Nat} {es:List En}
theorem index65 {cs:List Int} (h:RdL w p n cs) (hn:n≤1099511627776) (x:Int):Calls Tryz.prog 187 #[.slice p n c,I x] w fun e w'=>∃v,e=.returned (I v)∧(0≤v↔x∈cs)∧Keep None w w':=by
 refine (V187_calls p n c x w (fun r w'=>∃v,r=I v∧(0≤v↔x∈cs)∧Keep None w w') ?_).mono fun e w' ⟨r,he,v,hr,hk⟩=>⟨v,by rw [he,hr],hk⟩
 unfold V187
 have hl:=h.len
 refine lp_of (fun s w1=>∃i:Nat,s.1=(i:Int)∧i≤n∧x∉cs.take i∧Keep None w w1) (fun s _=>(n - s.1).toNat) ⟨0,rfl,Nat.zero_le _,by simp,Keep.refl _ _⟩ ?_
 rintro ⟨i',⟨⟩⟩ w1 ⟨i,rfl,hi,hno,k1⟩
 simp only []
 refine pif_of (fun hlt=>?_) fun hge=>?_
 ·have hlt:i<n:=by simpa using hlt
  rw [wrap_nat i (by omega)]
  refine (h.keep0 k1).ix hlt fun a y hy ha=>ldI_of ha (pif_of (fun he=>?_) fun he=>?_)
  ·have he:x=y:=by simpa using he
   subst he
   exact ⟨i,rfl,⟨fun _=>List.mem_of_getElem? hy,fun _=>by omega⟩,k1⟩
  ·have he:¬x=y:=by simpa using he
   refine ⟨⟨i+1,rfl,hlt,?_,k1⟩,by omega⟩
   rw [take_snoc hy,List.mem_append,List.mem_singleton]
   rintro (hh | hh)
   ·exact hno hh
   ·exact he hh
 ·have hge:i=n:=by simp at hge; omega
  subst hge
  rw [←hl,List.take_length] at hno
  exact ⟨-1,rfl,⟨fun h=>by omega,fun h=>absurd h hno⟩,k1⟩
theorem has60 {cs:List Int} (h:RdL w p n cs) (hn:n≤1099511627776) (x:Int):Calls Tryz.prog 186 #[.slice p n c,I x] w fun e w'=>e=.returned (.bool (decide (x∈cs)))∧Keep None w w':=by
 refine ans_of (V186_calls p n c x w (Ans w _) ?_)
 unfold V186
 refine cl_of ok187 (index65 h hn x) fun e w1 ⟨v,he,hv,k1⟩=>⟨v,he,?_,k1⟩
 congr 1
 exact decide_eq_decide.2 hv
theorem has55 {cs:List Int} (h:RdL w p n cs) (hn:n≤1099511627776) (x:Int):Calls Tryz.prog 182 #[.slice p n c,I x] w fun e w'=>e=.returned (.bool (fl x&&decide (x∈cs)))∧Keep None w w':=by
 refine ans_of (V182_calls p n c x w (Ans w _) ?_)
 unfold V182
 refine cl_of ok90 (fl33 x) fun e w1 ⟨he,k1⟩=>⟨_,he,?_⟩
 cases hf:fl x with
 | true=>exact gd_t rfl (cl_of ok186 (has60 (h.keep0 k1) hn x) fun e w2 ⟨he,k2⟩=>⟨_,he,rfl,k1.then0 k2⟩)
 | false=>exact gd_f rfl ⟨rfl,k1⟩
def Pl (es:List En) (l v:Int):Prop:=(v=-1∧∀y∈es,y.lit≠neg l)∨∃(i:Nat) (x:En),v=(i:Int)∧es[i]?=some x∧x.lit=neg l∧∀y∈es.take i,y.lit≠neg l
theorem Pl.nonneg {es:List En} {l v:Int} (h:Pl es l v):0≤v↔∃y∈es,y.lit=neg l:=by
 rcases h with ⟨rfl,h⟩ | ⟨i,x,rfl,hx,hl,_⟩
 ·exact ⟨fun h=>by omega,fun ⟨y,hy,hl⟩=>absurd hl (h y hy)⟩
 ·exact ⟨fun _=>⟨x,List.mem_of_getElem? hx,hl⟩,fun _=>by omega⟩
theorem take_snocE {es:List En} {i:Nat} {x:En} (hx:es[i]?=some x):es.take (i+1)=es.take i++[x]:=by
 rw [List.take_add_one,hx]; rfl
def lastLev (es:List En):Int:=match es.getLast? with | some x=>x.lev | none=>0
theorem lastLev_snoc {es:List En} {i:Nat} {x:En} (hx:es[i]?=some x):lastLev (es.take (i+1))=x.lev:=by
 rw [take_snocE hx]; unfold lastLev; simp
def Lev (pre:List En) (x:En):Prop:=(x.lev=lastLev pre∨x.lev=IntKind.wrap .i64 (lastLev pre+1))∧(x.lev=0∨(x.lev≠lastLev pre↔x.rs=[]))
def Rsn (pre:List En) (x:En):Prop:=x.rs.all fl=true∧x.lit∈x.rs∧∀l∈x.rs,l≠x.lit→∃y∈pre,y.lit=neg l
theorem slE {p:Option Addr} {c:Nat} (h:c≠0):slA p c 0 3=p:=by
 unfold slA
 cases p with
 | none=>simp
 | some a=>
  simp only [Nat.sub_zero,if_neg h,Option.map_some,Nat.zero_mul]
  unfold Addr.add
  simp
def Good (pre:List En) (x:En):Prop:=fl x.lit=true∧(∀y∈pre,y.lit≠x.lit∧y.lit≠neg x.lit)∧Lev pre x∧(x.rs≠[]→Rsn pre x)
def Fm (es:List En):Prop:=∀(i:Nat) (x:En),es[i]?=some x→Good (es.take i) x
theorem fm_no {es:List En} {i:Nat} {x:En} (hx:es[i]?=some x) (h:¬Good (es.take i) x):¬Fm es:=fun hf=>h (hf i x hx)
theorem neg_neg {l:Int} (h:fl l=true):neg (neg l)=l:=by
 have:=fl_iff.1 h
 unfold neg
 rw [IntKind.wrap_i64,IntKind.wrap_i64]; omega
end
end Go.Proofs.YtmhjehodfggleaaGreat.Learn

/- What makes a trail: the program's Formed. -/

set_option linter.unusedVariables false
set_option linter.unusedSimpArgs false
set_option maxRecDepth 100000
namespace Go.Proofs.YtmhjehodfggleaaGreat.Learn
open Go Go.Proofs.YtmhjehodfggleaaGreat.Vc Go.Proofs.YtmhjehodfggleaaGreat.T
open Go.Proofs.YtmhjehodfggleaaGreat.Apart (RdL own_rdl wrap_nat getE own_len copy same take_snoc Sl sv)
theorem u52:Tryz.prog.underlying 168=some (.map 3 3):=Tryz.underlying168
theorem z3:(Tryz.prog.info? 3).map (·.zero)=some (some (.int .i64 0)):=by kernel_rfl
def Kn (f:List (Int×Int)) (pre:List En):Prop:=∀l,(mget l f=1∧∃y∈pre,y.lit=l)∨(mget l f=0∧∀y∈pre,y.lit≠l)
theorem Kn.pos {f:List (Int×Int)} {pre:List En} (h:Kn f pre) (l:Int):decide (mget l f>0)=true↔∃y∈pre,y.lit=l:=by
 rcases h l with ⟨e,hy⟩ | ⟨e,hn⟩
 ·rw [e]; exact ⟨fun _=>hy,fun _=>rfl⟩
 ·rw [e]; exact ⟨fun h=>absurd h (by decide),fun ⟨y,hy,hl⟩=>absurd hl (hn y hy)⟩
section
variable {w w':World} {p:Option Addr} {n c:Nat} {es:List En}
theorem reason34 {lit lev:Int} {q:Option Addr} {rn rc r:Nat} {rs:List Int} {f:List (Int×Int)} {pre:List En} (hq:RdL w q rn rs) (hrn:rn≤1099511627776) (hM:Mp w r f) (hK:Kn f pre) :
  Calls Tryz.prog 162 #[.agg #[I lit,I lev,.slice q rn rc],.map (some r)] w fun e w'=>∃b,e=.returned (.bool b)∧(b=true↔Rsn pre ⟨lit,lev,rs⟩)∧Keep None w w':=by
 refine (V162_calls lit lev q rn rc (some r) w (fun v w'=>∃b,v=.bool b∧(b=true↔Rsn pre ⟨lit,lev,rs⟩)∧Keep None w w') ?_).mono fun e w' ⟨r,he,v,hr,hk⟩=>⟨v,by rw [he,hr],hk⟩
 unfold V162
 refine alc_at fun b w1 hb hB k1=>?_
 simp only [add_mk,Nat.add_zero,Nat.zero_add]
 have hql:=hq.len
 refine ldC_of (hB.cell 2) (ldI_of (hB.cell 0) (cl_of ok182 (has55 (hq.keep0 k1) hrn lit) fun e w2 ⟨he,k2⟩=>⟨_,he,?_⟩))
 have k02:=k1.then0 k2
 have hB2:=hB.keep0 k2
 by_cases hh:fl lit=true∧lit∈rs
 ·have e1:(fl lit&&decide (lit∈rs))=true:=by rw [hh.1,decide_eq_true hh.2]; rfl
  rw [e1]
  refine gd_t rfl (ldC_of (hB2.cell 2) (gd_t rfl (cl_of ok89 (sound39 (hq.keep0 k02) hrn) fun e w3 ⟨he,k3⟩=>⟨_,he,?_⟩)))
  have k03:=k02.then0 k3
  have hB3:=hB2.keep0 k3
  cases hs:rs.all fl with
  | false=>exact pif_t rfl ⟨false,rfl,⟨(fun h=>by cases h),fun h=>by have:=h.1; simp only [] at this; rw [hs] at this; cases this⟩,k03⟩
  | true=>
   refine pif_f rfl (ldC_of (hB3.cell 2) ?_)
   refine lp_of (fun s w'=>∃j:Nat,s.1=(j:Int)∧j≤rn∧(∀l∈rs.take j,l≠lit→∃y∈pre,y.lit=neg l)∧Keep None w w'∧Keep None w1 w') (fun s _=>(rn - s.1).toNat) ⟨0,rfl,Nat.zero_le _,by simp,k03,k2.then0 k3⟩ ?_
   rintro ⟨j',⟨⟩⟩ w4 ⟨j,rfl,hj,hall,k4,k14⟩
   simp only []
   refine pif_of (fun hlt=>?_) fun hge=>?_
   ·have hlt:j<rn:=by simpa using hlt
    rw [wrap_nat j (by omega)]
    refine (hq.keep0 k4).ix hlt fun a l hl ha=>ldI_of ha (ldI_of ((hB.keep0 k14).cell 0) ?_)
    have nxt:(l≠lit→∃y∈pre,y.lit=neg l)→∀l'∈rs.take (j+1),l'≠lit→∃y∈pre,y.lit=neg l':=fun h l' hl' hne=>by
     rw [take_snoc hl,List.mem_append,List.mem_singleton] at hl'
     rcases hl' with hl' | rfl
     ·exact hall l' hl' hne
     ·exact h hne
    by_cases hne:l=lit
    ·have e0:(l != lit)=false:=by simp [hne]
     exact gd_f e0 (pif_f (by rw [e0]; rfl) ⟨⟨j+1,rfl,hlt,nxt fun h=>absurd hne h,k4,k14⟩,by omega⟩)
    ·have e0:(l != lit)=true:=by simpa using hne
     refine gd_t e0 (lk_of u52 Tryz.underlying3 z3 (hM.keep0 k4) ?_)
     show pif (cond (l != lit) (mget (neg l) f==0) false) _ _
     rw [e0]
     rcases hK (neg l) with ⟨e,hy⟩ | ⟨e,hn⟩
     ·rw [e]
      exact pif_f rfl ⟨⟨j+1,rfl,hlt,nxt fun _=>hy,k4,k14⟩,by omega⟩
     ·rw [e]
      refine pif_t rfl ⟨false,rfl,⟨(fun h=>by cases h),fun h=>?_⟩,k4⟩
      obtain ⟨y,hy,hyl⟩:=h.2.2 l (List.mem_of_getElem? hl) hne
      exact absurd hyl (hn y hy)
   ·have hge:j=rn:=by simp at hge; omega
    subst hge
    rw [←hql,List.take_length] at hall
    exact ⟨true,rfl,⟨fun _=>⟨hs,hh.2,hall⟩,fun _=>rfl⟩,k4⟩
 ·have e1:(fl lit&&decide (lit∈rs))=false:=by
   rw [Bool.and_eq_false_iff,decide_eq_false_iff_not]
   by_cases h:fl lit=true
   ·exact Or.inr fun hm=>hh ⟨h,hm⟩
   ·exact Or.inl (by simpa using h)
  rw [e1]
  refine gd_f rfl (gd_f rfl (pif_t rfl ⟨false,rfl,⟨(fun h=>by cases h),fun h=>absurd ⟨?_,h.2.1⟩ hh⟩,k02⟩))
  exact (List.all_eq_true.1 h.1) lit h.2.1
theorem gdV {b:Bool} {k:IntKind} {a:Addr} {x:Int} {K:Int→World→Prop} (h:w.cell? a=some (.int k x)) (hk:∀y,(b=true→y=x)→K y w):gd (α:=Int) b (fun k'=>ldI k w a fun y=>k' y w) 0 w K:=by
 cases b with
 | true=>exact gd_t rfl (ldI_of h (hk x fun _=>rfl))
 | false=>exact gd_f rfl (hk 0 fun h=>by cases h)
theorem gdVC {b:Bool} {a:Addr} {q:Option Addr} {rn rc:Nat} {K:Option Addr×Nat×Nat→World→Prop} (h:w.cell? a=some (.slice q rn rc)) (hk:∀y,(b=true→y=(q,rn,rc))→K y w):gd (α:=Option Addr×Nat×Nat) b (fun k'=>ldC w a fun x n c=>k' (x,n,c) w) (none,0,0) w K:=by
 cases b with
 | true=>exact gd_t rfl (ldC_of h (hk _ fun _=>rfl))
 | false=>exact gd_f rfl (hk _ fun h=>by cases h)
theorem Kn.add {f:List (Int×Int)} {pre:List En} (h:Kn f pre) {x:En} (hno:∀y∈pre,y.lit≠x.lit):Kn (mput x.lit (IntKind.wrap .i64 (mget x.lit f+1)) f) (pre++[x]):=fun l=>by
 have e0:mget x.lit f=0:=by
  rcases h x.lit with ⟨_,y,hy,hl⟩ | ⟨e,_⟩
  ·exact absurd hl (hno y hy)
  ·exact e
 rw [mget_mput,e0]
 by_cases hl:l=x.lit
 ·rw [if_pos hl]
  exact Or.inl ⟨by decide +kernel,x,by simp,hl.symm⟩
 ·rw [if_neg hl]
  rcases h l with ⟨e,y,hy,hyl⟩ | ⟨e,hn⟩
  ·exact Or.inl ⟨e,y,by simp [hy],hyl⟩
  ·refine Or.inr ⟨e,fun y hy=>?_⟩
   rw [List.mem_append,List.mem_singleton] at hy
   rcases hy with hy | rfl
   ·exact hn y hy
   ·exact fun e=>hl e.symm
theorem formed10 (h:RdE w p n es) (hn:n≤1099511627776) (hr:∀x∈es,x.rs.length≤1099511627776) :
  Calls Tryz.prog 136 #[.slice p n c] w fun e w'=>∃b,e=.returned (.bool b)∧(b=true↔Fm es)∧Keep None w w':=by
 refine (V136_calls p n c w (fun r w'=>∃b,r=.bool b∧(b=true↔Fm es)∧Keep None w w') ?_).mono fun e w' ⟨r,he,v,hr,hk⟩=>⟨v,by rw [he,hr],hk⟩
 unfold V136
 have hl:=h.len
 refine mkmap_of fun r w1 hrw hM k1=>?_
 refine lp_of (fun s w'=>∃(i:Nat) (f:List (Int×Int)),s.2.1=(i:Int)∧i≤n∧s.1=lastLev (es.take i)∧0≤s.1∧s.1≤i∧(∀j x,j<i→es[j]?=some x→Good (es.take j) x)∧Keep None w w'∧Mp w' r f∧Kn f (es.take i)) (fun s _=>(n - s.2.1).toNat)
  ⟨0,[],rfl,Nat.zero_le _,rfl,by simp,by simp,(fun j x hj=>by omega),k1,hM,fun l=>Or.inr ⟨rfl,fun y hy=>by cases hy⟩⟩ ?_
 rintro ⟨a,i',⟨⟩⟩ w2 ⟨i,f,rfl,hi,ha,ha0,ha1,hall,k2,hM2,hK⟩
 simp only [] at ha ha0 ha1 ⊢
 refine pif_of (fun hlt=>?_) fun hge=>?_
 ·have hlt:i<n:=by simpa using hlt
  rw [wrap_nat i (by omega)]
  obtain ⟨x,hx⟩:=getE (show i<es.length by omega)
  have hrx:=hr x (List.mem_of_getElem? hx)
  refine (h.keep0 k2).ix hx fun ad ⟨q,rn,rc,c0,c1,c2,hq⟩=>ldI_of c0 (ldI_of c1 (ldC_of c2 ?_))
  have hql:=hq.len
  refine alc_at fun b w3 hb hB k3=>?_
  simp only [add_mk,Nat.add_zero,Nat.zero_add]
  refine st_of hB (by simp) rfl fun w4 hB4 k4 _=>?_
  refine st_of hB4 (by simp) rfl fun w5 hB5 k5 _=>?_
  refine st_of hB5 (by simp) rfl fun w6 hB6 k6 _=>?_
  have k26:Keep None w2 w6:=((k3.then1 k4 (by omega)).then1 k5 (by omega)).then1 k6 (by omega)
  simp only [List.set_cons_zero,List.set_cons_succ] at hB6
  have k06:=k2.then0 k26
  have hM6:=hM2.keep0 k26
  have hq6:=hq.keep0 k26
  have no:∀{w':World},Keep None w w'→¬Good (es.take i) x→∃b,(.bool false:Value)=.bool b∧(b=true↔Fm es)∧Keep None w w':=fun k hg=>⟨false,rfl,⟨(fun h=>by cases h),fun h=>absurd (h i x hx) hg⟩,k⟩
  have ew:IntKind.wrap .i64 (a+1)=a+1:=by rw [IntKind.wrap_i64]; omega
  rw [ew]
  -- is it a level's first?
  refine gdV (hB6.cell 1) fun y20 h20=>gdV (hB6.cell 1) fun y23 h23=>?_
  have eF:(cond (cond ((i:Int)==0) (y20==1) false) true (cond (decide ((i:Int)>0)) (y23==a+1) false))=decide (x.lev=a+1):=by
   by_cases h0:i=0
   ·subst h0
    have e0:a=0:=by rw [ha]; rfl
    rw [h20 rfl,e0]
    simp [beq_iff_eq]
    rw [Bool.eq_iff_iff]
    simp
   ·have e0:((i:Int)==0)=false:=by simpa using h0
    have e1:decide ((i:Int)>0)=true:=decide_eq_true (by omega)
    rw [h23 (by rw [e0,e1]; rfl),e0,e1]
    rw [Bool.eq_iff_iff]
    simp
  rw [eF]
  refine gdV (hB6.cell 1) fun y27 h27=>?_
  by_cases hlev:x.lev=a+1∨x.lev=a
  ·have eC:(cond (!decide (x.lev=a+1)) (y27 != a) false)=false:=by
    by_cases h1:x.lev=a+1
    ·simp [h1]
    ·have:y27=x.lev:=h27 (by simp [h1])
     have h2:=hlev.resolve_left h1
     simp [h1,this,h2]
   rw [eC]
   refine gd_t rfl (ldI_of (hB6.cell 0) (gd_t rfl (lk_of u52 Tryz.underlying3 z3 hM6 ?_)))
   by_cases hp1:∃y∈es.take i,y.lit=x.lit
   ·have e1:=(hK.pos x.lit).2 hp1
    rw [e1]
    refine gd_f rfl (gd_f rfl (gd_f rfl (gd_f rfl (pif_t rfl (no k06 fun h=>?_)))))
    obtain ⟨y,hy,hyl⟩:=hp1
    exact (h.2.1 y hy).1 hyl
   have e1:decide (mget x.lit f>0)=false:=by
    rw [←Bool.not_eq_true]; exact fun h=>hp1 ((hK.pos x.lit).1 h)
   rw [e1]
   refine gd_t rfl (ldI_of (hB6.cell 0) (gd_t rfl (lk_of u52 Tryz.underlying3 z3 hM6 ?_)))
   by_cases hp2:∃y∈es.take i,y.lit=neg x.lit
   ·have e2:decide (mget (IntKind.wrap .i64 (0 - x.lit)) f>0)=true:=(hK.pos (neg x.lit)).2 hp2
    rw [e2]
    refine gd_f rfl (gd_f rfl (pif_t rfl (no k06 fun h=>?_)))
    obtain ⟨y,hy,hyl⟩:=hp2
    exact (h.2.1 y hy).2 hyl
   have e2:decide (mget (IntKind.wrap .i64 (0 - x.lit)) f>0)=false:=by
    rw [←Bool.not_eq_true]; exact fun h=>hp2 ((hK.pos (neg x.lit)).1 h)
   rw [e2]
   refine gd_t rfl (ldI_of (hB6.cell 0) (gd_t rfl (cl_of ok90 (fl33 x.lit) fun e w7 ⟨he,k7⟩=>⟨_,he,?_⟩)))
   have k07:=k06.then0 k7
   have hB7:=hB6.keep0 k7
   have hM7:=hM6.keep0 k7
   have hq7:=hq6.keep0 k7
   cases hf:fl x.lit with
   | false=>exact pif_t rfl (no k07 fun h=>by have:=h.1; rw [hf] at this; cases this)
   | true=>
    have hdist:∀y∈es.take i,y.lit≠x.lit∧y.lit≠neg x.lit:=fun y hy=>⟨fun e=>hp1 ⟨y,hy,e⟩,fun e=>hp2 ⟨y,hy,e⟩⟩
    refine pif_f rfl (ldI_of (hB7.cell 1) (gdVC (hB7.cell 2) fun y53 h53=>?_))
    have hrl:x.rs=[]↔rn=0:=by rw [←List.length_eq_zero_iff,hql]
    have hlo:x.lev=lastLev (es.take i)∨x.lev=IntKind.wrap .i64 (lastLev (es.take i)+1):=by
     rw [←ha,ew]; exact hlev.symm
    by_cases hD:x.lev=0∨(x.lev≠a↔x.rs=[])
    ·have eD:(cond (decide (x.lev>0)) (!((decide (x.lev=a+1))==((y53.2.1:Int)==0))) false)=false:=by
      by_cases hp:x.lev>0
      ·have hy:=h53 (decide_eq_true hp)
       rw [hy,decide_eq_true hp]
       have hd:=hD.resolve_left (by omega)
       rw [hrl] at hd
       simp only [cond_true,Bool.not_eq_false',beq_iff_eq]
       rw [Bool.eq_iff_iff,decide_eq_true_eq,beq_iff_eq]
       omega
      ·rw [decide_eq_false hp]; rfl
     rw [eD]
     refine gd_t rfl (ldC_of (hB7.cell 2) ?_)
     have hLev:Lev (es.take i) x:=⟨hlo,by rw [←ha]; exact hD⟩
     -- what comes last
     have last:(x.rs≠[]→Rsn (es.take i) x)→∀{w8:World},Keep None w7 w8→
       ldI .i64 w8 ⟨b,0,none⟩ fun x68=>∃x69:Int,∃w24:World,(Instr.lookup 168 (.map (some r)) (.int .i64 x68) false).run Tryz.prog w8=.ok (.int .i64 x69) w24∧
       ∃w25:World,(Instr.mapUpdate 168 (.map (some r)) (.int .i64 x68) (.int .i64 (IntKind.wrap .i64 (x69+1)))).run Tryz.prog w24=.ok () w25∧
       ((∃(j:Nat) (f:List (Int×Int)),((i+1:Nat):Int)=(j:Int)∧j≤n∧x.lev=lastLev (es.take j)∧0≤x.lev∧x.lev≤j∧(∀j' x,j'<j→es[j']?=some x→Good (es.take j') x)∧Keep None w w25∧Mp w25 r f∧Kn f (es.take j))∧((n:Int) - ((i+1:Nat):Int)).toNat<((n:Int) - (i:Int)).toNat):=by
      intro hh w8 k8
      refine ldI_of ((hB7.keep0 k8).cell 0) (lk_of u52 Tryz.underlying3 z3 (hM7.keep0 k8) (up_of u52 Tryz.underlying3 (hM7.keep0 k8) fun w9 hM9 k9 _=>⟨⟨i+1,_,rfl,hlt,(lastLev_snoc hx).symm,by omega,by omega,fun j y hj hy=>?_,?_,hM9,?_⟩,by omega⟩))
      ·by_cases hji:j=i
       ·subst hji
        rw [hx] at hy
        injection hy with hy
        subst hy
        exact ⟨hf,hdist,hLev,hh⟩
       ·exact hall j y (by omega) hy
      ·exact (k07.then0 k8).trans k9 fun j hj hh=>by have:j=r:=hh; omega
      ·rw [take_snocE hx]
       exact hK.add fun y hy=>(hdist y hy).1
     by_cases hr0:0<rn
     ·have hne:x.rs≠[]:=fun e=>by have:=hrl.1 e; omega
      have e4:((!false)&&(decide ((rn:Int)>0)))=true:=by rw [decide_eq_true (by omega)]; rfl
      refine gd_t e4 (ldI_of (hB7.cell 0) (ldI_of (hB7.cell 1) (ldC_of (hB7.cell 2) (gd_t e4 ?_))))
      refine cl_of ok162 (reason34 (lit:=x.lit) (lev:=x.lev) (q:=q) (rn:=rn) (rc:=rc) (pre:=es.take i) hq7 (by omega) hM7 hK) fun e w8 ⟨v,he,hv,k8⟩=>⟨v,he,?_⟩
      have e5:decide ((rn:Int)>0)=true:=decide_eq_true (by omega)
      cases v with
      | false=>exact pif_t (by rw [e5]; rfl) (no (k07.then0 k8) fun h=>by have:=hv.2 (h.2.2.2 hne); cases this)
      | true=>exact pif_f (by rw [e5]; rfl) (last (fun _=>hv.1 rfl) k8)
     ·have hnil:x.rs=[]:=hrl.2 (by omega)
      have e5:decide ((rn:Int)>0)=false:=decide_eq_false (by omega)
      have e4:((!false)&&(decide ((rn:Int)>0)))=false:=by rw [e5]; rfl
      exact gd_f e4 (gd_f e4 (pif_f (by rw [e5]; rfl) (last (fun h=>absurd hnil h) (Keep.refl _ _))))
    ·have eD:(cond (decide (x.lev>0)) (!((decide (x.lev=a+1))==((y53.2.1:Int)==0))) false)=true:=by
      have hp:x.lev>0:=by
       have:¬x.lev=0:=fun e=>hD (Or.inl e)
       omega
      have hy:=h53 (decide_eq_true hp)
      have hd:¬(x.lev≠a↔rn=0):=fun e=>hD (Or.inr (by rw [hrl]; exact e))
      rw [hy,decide_eq_true hp]
      simp only [cond_true,Bool.not_eq_true',beq_eq_false_iff_ne,ne_eq]
      rw [Bool.eq_iff_iff,decide_eq_true_eq,beq_iff_eq]
      omega
     rw [eD]
     refine gd_f rfl (gd_f rfl (gd_f rfl (pif_t rfl (no k07 fun h=>?_))))
     have:=h.2.2.1.2
     rw [←ha] at this
     exact hD this
  ·have eC:(cond (!decide (x.lev=a+1)) (y27 != a) false)=true:=by
    have h1:¬x.lev=a+1:=fun e=>hlev (Or.inl e)
    have h2:¬x.lev=a:=fun e=>hlev (Or.inr e)
    have:y27=x.lev:=h27 (by simp [h1])
    simp [h1,this,h2]
   rw [eC]
   refine gd_f rfl (gd_f rfl (gd_f rfl (gd_f rfl (gd_f rfl (gd_f rfl (pif_t rfl (no k06 fun h=>?_)))))))
   have:=h.2.2.1.1
   rw [←ha,ew] at this
   exact hlev this.symm
 ·have hge:i=n:=by simp at hge; omega
  subst hge
  exact ⟨true,rfl,⟨fun _ i x hx=>hall i x (by have:=(List.getElem?_eq_some_iff.1 hx).1; omega) hx,fun _=>rfl⟩,k2⟩
end
end Go.Proofs.YtmhjehodfggleaaGreat.Learn

/- Levels: where literals became false, how many levels a clause has. -/

set_option linter.unusedVariables false
set_option linter.unusedSimpArgs false
set_option maxRecDepth 100000
namespace Go.Proofs.YtmhjehodfggleaaGreat.Learn
open Go Go.Proofs.YtmhjehodfggleaaGreat.Vc Go.Proofs.YtmhjehodfggleaaGreat.T
open Go.Proofs.YtmhjehodfggleaaGreat.Apart (RdL own_rdl wrap_nat getE own_len copy same take_snoc Sl sv)
theorem len_of {w:World} {r:Nat} {f:List (Int×Int)} {K:Int→World→Prop} (h:Mp w r f) (hk:K f.length w) :
  ∃x:Int,∃w':World,(Builtin.len_ #[168] 3 #[.map (some r)]).run Tryz.prog w=.ok (.int .i64 x) w'∧K x w':=by
 obtain ⟨es,clock,hb,he⟩:=h
 refine ⟨f.length,w,?_,hk⟩
 have hl:es.size=f.length:=by
  have:=congrArg List.length he
  simpa using this
 simp [Builtin.len_,run_underlying u52,MapKept.run_getObj_map hb,Result.andThen,goInt,hl]
def Pm (f:List (Int×Int)) (es:List En):Prop:=∀l,(mget l f=0∧∀y∈es,neg y.lit≠l)∨∃(i:Nat) (x:En),mget l f=(i:Int)+1∧es[i]?=some x∧neg x.lit=l
section
variable {w w':World} {p q:Option Addr} {n m c d:Nat} {es:List En} {cs:List Int}
theorem places40 (h:RdE w p n es) (hn:n≤1099511627776):Calls Tryz.prog 98 #[.slice p n c] w fun e w'=>∃r f,e=.returned (.map (some r))∧w.heap.size≤r∧Mp w' r f∧Pm f es∧Keep None w w':=by
 refine (V98_calls p n c w (fun v w'=>∃r f,v=.map (some r)∧w.heap.size≤r∧Mp w' r f∧Pm f es∧Keep None w w') ?_).mono fun e w' ⟨v,he,r,f,hv,hk⟩=>⟨r,f,by rw [he,hv],hk⟩
 unfold V98
 have hl:=h.len
 refine mkmap_of fun r w1 hrw hM k1=>?_
 refine lp_of (fun s w'=>∃(i:Nat) (f:List (Int×Int)),s.1=(i:Int)∧i≤n∧Keep None w w'∧Mp w' r f∧Pm f (es.take i)) (fun s _=>(n - s.1).toNat)
  ⟨0,[],rfl,Nat.zero_le _,k1,hM,fun l=>Or.inl ⟨rfl,fun y hy=>by cases hy⟩⟩ ?_
 rintro ⟨i',⟨⟩⟩ w2 ⟨i,f,rfl,hi,k2,hM2,hP⟩
 simp only []
 refine pif_of (fun hlt=>?_) fun hge=>?_
 ·have hlt:i<n:=by simpa using hlt
  rw [wrap_nat i (by omega)]
  obtain ⟨x,hx⟩:=getE (show i<es.length by omega)
  refine (h.keep0 k2).ix hx fun ad ⟨s,rn,rc,c0,c1,c2,hs⟩=>ldI_of c0 (ldI_of c1 (ldC_of c2 ?_))
  refine alc_at fun b w3 hb hB k3=>?_
  simp only [add_mk,Nat.add_zero,Nat.zero_add]
  refine st_of hB (by simp) rfl fun w4 hB4 k4 _=>?_
  refine st_of hB4 (by simp) rfl fun w5 hB5 k5 _=>?_
  refine st_of hB5 (by simp) rfl fun w6 hB6 k6 _=>?_
  have k26:Keep None w2 w6:=((k3.then1 k4 (by omega)).then1 k5 (by omega)).then1 k6 (by omega)
  simp only [List.set_cons_zero,List.set_cons_succ] at hB6
  have k06:=k2.then0 k26
  refine ldI_of (hB6.cell 0) (up_of u52 Tryz.underlying3 (hM2.keep0 k26) fun w7 hM7 k7 _=>⟨⟨i+1,_,rfl,hlt,k06.trans k7 fun j hj hh=>by have:j=r:=hh; omega,hM7,fun l=>?_⟩,by omega⟩)
  rw [mget_mput,take_snocE hx]
  by_cases hlx:l=IntKind.wrap .i64 (0 - x.lit)
  ·rw [if_pos hlx]
   refine Or.inr ⟨i,x,by omega,?_,hlx.symm⟩
   rw [List.getElem?_append_right (by simp; omega)]
   have:i - (es.take i).length=0:=by simp; omega
   rw [this]; rfl
  ·rw [if_neg hlx]
   rcases hP l with ⟨e,hno⟩ | ⟨j,y,e,hy,hyl⟩
   ·refine Or.inl ⟨e,fun y hy=>?_⟩
    rw [List.mem_append,List.mem_singleton] at hy
    rcases hy with hy | rfl
    ·exact hno y hy
    ·exact fun e=>hlx e.symm
   ·have hj:=(List.getElem?_eq_some_iff.1 hy).1
    exact Or.inr ⟨j,y,e,by rw [List.getElem?_append_left hj]; exact hy,hyl⟩
 ·have hge:i=n:=by simp at hge; omega
  subst hge
  rw [←hl,List.take_length] at hP
  exact ⟨r,f,rfl,by omega,hM2,hP,k2⟩
def lev? (es:List En) (l:Int):Option Int:=(es.find? fun x=>decide (x.lit=l∨x.lit=neg l)).map fun x=>x.lev
theorem lev_none {l:Int} (h:∀y∈es,y.lit≠l∧y.lit≠neg l):lev? es l=none:=by
 unfold lev?
 rw [List.find?_eq_none.2 fun y hy=>by have:=h y hy; simp [this.1,this.2]]
 rfl
theorem fm_uniq (hF:Fm es) {l:Int} (hl:fl l=true) {i j:Nat} {x y:En} (hx:es[i]?=some x) (hy:es[j]?=some y) (h1:x.lit=l∨x.lit=neg l) (h2:y.lit=l∨y.lit=neg l):i=j:=by
 have aux:∀{i j:Nat} {x y:En},es[i]?=some x→es[j]?=some y→(x.lit=l∨x.lit=neg l)→(y.lit=l∨y.lit=neg l)→¬i<j:=by
  intro i j x y hx hy h1 h2 hlt
  have hm:x∈es.take j:=List.mem_iff_getElem?.2 ⟨i,by rw [List.getElem?_take,if_pos hlt]; exact hx⟩
  have hg:=(hF j y hy).2.1 x hm
  have hnn:=neg_neg hl
  rcases h1 with h1 | h1<;>rcases h2 with h2 | h2
  ·exact hg.1 (h1.trans h2.symm)
  ·exact hg.2 (by rw [h2,hnn]; exact h1)
  ·exact hg.2 (by rw [h2]; exact h1)
  ·exact hg.1 (h1.trans h2.symm)
 have a1:=aux hx hy h1 h2
 have a2:=aux hy hx h2 h1
 omega
theorem lev_some (hF:Fm es) {l:Int} (hl:fl l=true) {i:Nat} {x:En} (hx:es[i]?=some x) (h1:x.lit=l∨x.lit=neg l):lev? es l=some x.lev:=by
 unfold lev?
 cases hf:es.find? (fun x=>decide (x.lit=l∨x.lit=neg l)) with
 | none=>
  have:=List.find?_eq_none.1 hf x (List.mem_of_getElem? hx)
  exact absurd (by simpa using h1) this
 | some y=>
  have hp:=List.find?_some hf
  obtain ⟨j,hj⟩:=List.mem_iff_getElem?.1 (List.mem_of_find?_eq_some hf)
  have e:=fm_uniq hF hl hx hj h1 (by simpa using hp)
  subst e
  rw [hx] at hj
  injection hj with hj
  rw [hj]; rfl
def addS (S:List Int) (L:Int):List Int:=if L∈S then S else S++[L]
def runL (es:List En):List Int→List Int→Option (List Int)
 | [],S=>some S
 | l :: cs,S=>match lev? es l with
  | none=>none
  | some L=>runL es cs (addS S L)
def ansV (o:Option (List Int)):Value:=match o with | none=>.tuple #[I 0,I 2] | some S=>.tuple #[I S.length,I 0]
theorem drop_cons {R:List Int} {i:Nat} {x:Int} (h:R[i]?=some x):R.drop i=x :: R.drop (i+1):=by
 have hi:=(List.getElem?_eq_some_iff.1 h).1
 rw [List.drop_eq_getElem_cons hi]
 rw [List.getElem?_eq_getElem hi] at h
 injection h with h
 rw [h]
theorem mput_keys (k v:Int):∀f:List (Int×Int),(mput k v f).map (fun p:Int×Int=>p.1)=addS (f.map fun p:Int×Int=>p.1) k:=by
 intro f
 induction f with
 | nil=>simp [mput,addS]
 | cons p f ih=>
  unfold mput
  by_cases h:p.1=k
  ·rw [if_pos h]
   simp [addS,h]
  ·rw [if_neg h,List.map_cons,ih,List.map_cons]
   unfold addS
   have h':¬k=p.1:=fun e=>h e.symm
   by_cases hm:k∈f.map fun p:Int×Int=>p.1
   ·rw [if_pos hm,if_pos (List.mem_cons_of_mem _ hm)]
   ·rw [if_neg hm,if_neg (by rw [List.mem_cons]; exact fun e=>e.elim h' hm)]; rfl
end
end Go.Proofs.YtmhjehodfggleaaGreat.Learn

/- Shrink: what is covered. -/

set_option linter.unusedVariables false
set_option linter.unusedSimpArgs false
set_option maxRecDepth 100000
namespace Go.Proofs.YtmhjehodfggleaaGreat.Learn
open Go Go.Proofs.YtmhjehodfggleaaGreat.Vc Go.Proofs.YtmhjehodfggleaaGreat.T
open Go.Proofs.YtmhjehodfggleaaGreat.Apart (RdL own_rdl wrap_nat getE own_len copy same take_snoc Sl sv Gro)
theorem clF_of {k:FuncId} {first cap:Array Value} {args:List Value} {w:World} {R:Ending→World→Prop} (h:cl Tryz.prog k (first.toList++args++cap.toList) w R) :
  clF Tryz.prog (.func (.func k) first cap) args w R:=⟨k,first,cap,rfl,h⟩
theorem cell_ne {w:World} {r:Nat} {f:List (Int×Int)} {a:Addr} {v:Value} (hM:Mp w r f) (h:w.cell? a=some v):a.block≠r:=by
 rintro rfl
 obtain ⟨es,clock,hb,_⟩:=hM
 simp [World.cell?,hb] at h
section
variable {w w':World} {p:Option Addr} {n c r:Nat} {es:List En} {cs:List Int} {f:List (Int×Int)}
theorem rdl_keepM (h:RdL w p n cs) (hM:Mp w r f) (hk:Keep (One r) w w'):RdL w' p n cs:=⟨h.len,fun i x hx=>by
 obtain ⟨a,e,hc⟩:=h.cell i x hx
 exact ⟨a,e,hk.cell hc (cell_ne hM hc)⟩⟩
theorem rde_keepM (h:RdE w p n es) (hM:Mp w r f) (hk:Keep (One r) w w'):RdE w' p n es:=⟨h.len,fun i x hx=>by
 obtain ⟨a,q,rn,rc,e,c0,c1,c2,hr⟩:=h.cell i x hx
 exact ⟨a,q,rn,rc,e,hk.cell c0 (cell_ne hM c0),hk.cell c1 (cell_ne hM c1),hk.cell c2 (cell_ne hM c2),rdl_keepM hr hM hk⟩⟩
theorem blk_ne {b:Nat} {vs:List Value} {t:TypeId} (hB:Blk w b vs t) (hM:Mp w r f):b≠r:=by
 rintro rfl
 obtain ⟨es,clock,hb,_⟩:=hM
 unfold Blk at hB
 rw [hB] at hb
 cases hb
theorem blk_keepM {b:Nat} {vs:List Value} {t:TypeId} (hB:Blk w b vs t) (hM:Mp w r f) (hk:Keep (One r) w w'):Blk w' b vs t:=hB.keep hk (blk_ne hB hM)
end
inductive Cov (es:List En) (cl:List Int):Nat→Prop
 | mk {i:Nat} {x:En} (hx:es[i]?=some x) (hne:x.rs≠[]) (h:∀o∈x.rs,o≠x.lit→∀(a:Nat) (y:En),es[a]?=some y→y.lit=neg o→0<y.lev→o∉cl→Cov es cl a):Cov es cl i
structure Ev (w:World) (es:List En) (cl:List Int) (b0 b1 b2 b3 b4 r0 r1 r3:Nat) (p:Option Addr) (n c:Nat) (fa fs:List (Int×Int)):Prop where
 kn:Blk w b0 [.map (some r0)] 168
 tr:Blk w b1 [.slice p n c] 79
 at':Blk w b2 [.map (some r1)] 168
 st:Blk w b3 [.map (some r3)] 168
 fn:Blk w b4 [.func (.func 101) #[] #[.pointer (some ⟨b0,0,none⟩),.pointer (some ⟨b1,0,none⟩),.pointer (some ⟨b2,0,none⟩),.pointer (some ⟨b3,0,none⟩),.pointer (some ⟨b4,0,none⟩)]] 77
 rd:RdE w p n es
 am:Mp w r1 fa
 sm:Mp w r3 fs
 d1:r1≠r0
 d3:r3≠r0
 pm:Pm fa es
 sp:∀o,mget o fs=0↔o∉cl
section
variable {w w':World} {es:List En} {cl:List Int} {b0 b1 b2 b3 b4 r0 r1 r3:Nat} {p:Option Addr} {n c:Nat} {fa fs f:List (Int×Int)}
theorem Ev.keepM (h:Ev w es cl b0 b1 b2 b3 b4 r0 r1 r3 p n c fa fs) (hM:Mp w r0 f) (hk:Keep (One r0) w w'):Ev w' es cl b0 b1 b2 b3 b4 r0 r1 r3 p n c fa fs:=
 ⟨blk_keepM h.kn hM hk,blk_keepM h.tr hM hk,blk_keepM h.at' hM hk,blk_keepM h.st hM hk,blk_keepM h.fn hM hk,rde_keepM h.rd hM hk,h.am.keep hk h.d1,h.sm.keep hk h.d3,h.d1,h.d3,h.pm,h.sp⟩
theorem Ev.keep0 (h:Ev w es cl b0 b1 b2 b3 b4 r0 r1 r3 p n c fa fs) (hk:Keep None w w'):Ev w' es cl b0 b1 b2 b3 b4 r0 r1 r3 p n c fa fs:=
 ⟨h.kn.keep0 hk,h.tr.keep0 hk,h.at'.keep0 hk,h.st.keep0 hk,h.fn.keep0 hk,h.rd.keep0 hk,h.am.keep0 hk,h.sm.keep0 hk,h.d1,h.d3,h.pm,h.sp⟩
theorem lit_ne (hF:Fm es) {i j:Nat} {x y:En} (hx:es[i]?=some x) (hy:es[j]?=some y) (h:neg x.lit=neg y.lit):i=j:=by
 have f1:=(hF i x hx).1
 have f2:=(hF j y hy).1
 have e:x.lit=y.lit:=by rw [←neg_neg f1,h,neg_neg f2]
 exact fm_uniq hF f1 hx hy (Or.inl rfl) (Or.inl e.symm)
theorem at_of (hF:Fm es) (hP:Pm fa es) {i:Nat} {x:En} (hx:es[i]?=some x):mget (neg x.lit) fa=(i:Int)+1:=by
 rcases hP (neg x.lit) with ⟨_,h⟩ | ⟨j,y,e,hy,hyl⟩
 ·exact absurd rfl (h x (List.mem_of_getElem? hx))
 ·rw [e,lit_ne hF hy hx hyl]
def Kv (es:List En) (cl:List Int) (f:List (Int×Int)) (i:Nat):Prop:=∀j y,j≤i→es[j]?=some y→mget (neg y.lit) f=0∨(mget (neg y.lit) f=1∧Cov es cl j)∨(mget (neg y.lit) f=2∧¬Cov es cl j)
def Fr (es:List En) (f f':List (Int×Int)) (i:Nat):Prop:=∀k,(∀j y,j≤i→es[j]?=some y→neg y.lit≠k)→mget k f'=mget k f
def Told (es:List En) (cl:List Int) (w:World) (r0:Nat) (f:List (Int×Int)) (i:Nat) (v:Value) (w':World):Prop:=
 ∃b f',v=.bool b∧(b=true↔Cov es cl i)∧Mp w' r0 f'∧Kv es cl f' i∧Fr es f f' i∧Keep (One r0) w w'
theorem covered44 (hF:Fm es) (hn:n≤1048576) (hr:∀x∈es,x.rs.length≤1048576):∀(i:Nat) (x:En) (w:World) (f:List (Int×Int)),es[i]?=some x→Ev w es cl b0 b1 b2 b3 b4 r0 r1 r3 p n c fa fs→Mp w r0 f→Kv es cl f i→
  Calls Tryz.prog 101 #[I (neg x.lit),.pointer (some ⟨b0,0,none⟩),.pointer (some ⟨b1,0,none⟩),.pointer (some ⟨b2,0,none⟩),.pointer (some ⟨b3,0,none⟩),.pointer (some ⟨b4,0,none⟩)] w fun e w'=>∃v,e=.returned v∧Told es cl w r0 f i v w':=by
 intro i
 induction i using Nat.strongRecOn with
 | ind i ih=>
 intro x w f hx hE hM hK
 have hlen:=hE.rd.len
 have hi:=(List.getElem?_eq_some_iff.1 hx).1
 have hg:=hF i x hx
 have hrx:=hr x (List.mem_of_getElem? hx)
 refine V101_calls (neg x.lit) ⟨b0,0,none⟩ ⟨b1,0,none⟩ ⟨b2,0,none⟩ ⟨b3,0,none⟩ ⟨b4,0,none⟩ w (Told es cl w r0 f i) ?_
 unfold V101
 refine ⟨fun _ w'=>∃f',((mget (neg x.lit) f'=1∧Cov es cl i)∨(mget (neg x.lit) f'=2∧¬Cov es cl i))∧Mp w' r0 f'∧Kv es cl f' i∧Fr es f f' i∧Keep (One r0) w w',?_,?_⟩
 ·refine ldM_of (hE.kn.cell 0) (lk_of u52 Tryz.underlying3 z3 hM (pif_of (fun h0=>?_) fun h0=>?_))
  ·have h0:mget (neg x.lit) f=0:=by simpa using h0
   refine ldM_of (hE.kn.cell 0) (up_of u52 Tryz.underlying3 hM fun w3 hM3 k3 _=>?_)
   have hE3:=hE.keepM hM k3
   refine ldC_of (hE3.tr.cell 0) (ldM_of (hE3.at'.cell 0) (lk_of u52 Tryz.underlying3 z3 hE3.am ?_))
   rw [at_of hF hE.pm hx]
   have ei:IntKind.wrap .i64 ((i:Int)+1 - 1)=(i:Int):=by rw [IntKind.wrap_i64]; omega
   rw [ei]
   refine hE3.rd.ix hx fun ad ⟨q,rn,rc,c0,c1,c2,hq⟩=>ldI_of c0 (ldI_of c1 (ldC_of c2 ?_))
   have hql:=hq.len
   refine alc_at fun b w4 hb hB k4=>?_
   simp only [add_mk,Nat.add_zero,Nat.zero_add]
   refine st_of hB (by simp) rfl fun w5 hB5 k5 _=>?_
   refine st_of hB5 (by simp) rfl fun w6 hB6 k6 _=>?_
   refine st_of hB6 (by simp) rfl fun w7 hB7 k7 _=>?_
   have k37:Keep None w3 w7:=((k4.then1 k5 (by omega)).then1 k6 (by omega)).then1 k7 (by omega)
   simp only [List.set_cons_zero,List.set_cons_succ] at hB7
   have hE7:=hE3.keep0 k37
   have hM7:=hM3.keep0 k37
   have hq7:=hq.keep0 k37
   have k07:Keep (One r0) w w7:=k3.trans k37 fun j _ h=>h.elim
   generalize hf3:mput (neg x.lit) 1 f=f3 at *
   have hget3:∀k,mget k f3=if k=neg x.lit then 1 else mget k f:=fun k=>by rw [←hf3,mget_mput]
   have kv3:∀j y,j<i→es[j]?=some y→mget (neg y.lit) f3=0∨(mget (neg y.lit) f3=1∧Cov es cl j)∨(mget (neg y.lit) f3=2∧¬Cov es cl j):=fun j y hj hy=>by
    rw [hget3,if_neg fun e=>by have:=lit_ne hF hy hx e; omega]
    exact hK j y (by omega) hy
   -- the answer is settled
   have fin:∀{w':World} {f':List (Int×Int)},((mget (neg x.lit) f'=1∧Cov es cl i)∨(mget (neg x.lit) f'=2∧¬Cov es cl i))→Mp w' r0 f'→(∀j y,j<i→es[j]?=some y→mget (neg y.lit) f'=0∨(mget (neg y.lit) f'=1∧Cov es cl j)∨(mget (neg y.lit) f'=2∧¬Cov es cl j))→
     (∀k,(∀j y,j≤i→es[j]?=some y→neg y.lit≠k)→mget k f'=mget k f3)→Keep (One r0) w w'→∃f',((mget (neg x.lit) f'=1∧Cov es cl i)∨(mget (neg x.lit) f'=2∧¬Cov es cl i))∧Mp w' r0 f'∧Kv es cl f' i∧Fr es f f' i∧Keep (One r0) w w':=by
    intro w' f' h1 h2 h3 h4 h5
    refine ⟨f',h1,h2,fun j y hj hy=>?_,fun k hk=>?_,h5⟩
    ·by_cases hji:j=i
     ·subst hji
      rw [hx] at hy; injection hy with hy; subst hy
      exact Or.inr h1
     ·exact h3 j y (by omega) hy
    ·rw [h4 k hk,hget3,if_neg fun e=>hk i x (Nat.le_refl _) hx e.symm]
   -- the keys of earlier entries are others
   have keyne:∀{j:Nat} {y:En},j<i→es[j]?=some y→neg y.lit≠neg x.lit:=fun hj hy e=>by have:=lit_ne hF hy hx e; omega
   -- l is told to stay
   have settle2:∀{w':World} {g:List (Int×Int)},¬Cov es cl i→Mp w' r0 g→(∀j y,j<i→es[j]?=some y→mget (neg y.lit) g=0∨(mget (neg y.lit) g=1∧Cov es cl j)∨(mget (neg y.lit) g=2∧¬Cov es cl j))→
     (∀k,(∀j y,j≤i→es[j]?=some y→neg y.lit≠k)→mget k g=mget k f3)→Keep (One r0) w w'→∀w'',Mp w'' r0 (mput (neg x.lit) 2 g)→Keep (One r0) w' w''→∃f',((mget (neg x.lit) f'=1∧Cov es cl i)∨(mget (neg x.lit) f'=2∧¬Cov es cl i))∧Mp w'' r0 f'∧Kv es cl f' i∧Fr es f f' i∧Keep (One r0) w w'':=by
    intro w' g hc hM' h3 h4 h5 w'' hM'' k''
    refine fin (Or.inr ⟨by rw [mget_mput,if_pos rfl],hc⟩) hM'' (fun j y hj hy=>?_) (fun k hk=>?_) (h5.trans k'' fun i _ h=>h)
    ·rw [mget_mput,if_neg (keyne hj hy)]; exact h3 j y hj hy
    ·rw [mget_mput,if_neg fun e=>hk i x (Nat.le_refl _) hx e.symm]; exact h4 k hk
   by_cases hnil:x.rs=[]
   ·-- no reason
    have hrn0:rn=0:=by rw [hnil] at hql; simpa using hql.symm
    have hcov:¬Cov es cl i:=fun h=>by
     cases h with
     | mk hx' hne _=>rw [hx] at hx'; injection hx' with hx'; subst hx'; exact hne hnil
    refine ⟨fun _ w'=>Mp w' r0 (mput (neg x.lit) 2 f3)∧Keep (One r0) w7 w',ldC_of (hB7.cell 2) (pif_t (by simp [hrn0]) (ldM_of (hE7.kn.cell 0) (up_of u52 Tryz.underlying3 hM7 fun w8 hM8 k8 _=>⟨hM8,k8⟩))),?_⟩
    rintro ⟨⟩ w9 ⟨hM9,k9⟩
    have hB9:=blk_keepM hB7 hM7 k9
    refine ldC_of (hB9.cell 2) (lp_of (fun s w'=>s.1=0∧w'=w9) (fun s _=>0) ⟨rfl,rfl⟩ ?_)
    rintro ⟨j',⟨⟩⟩ w10 ⟨rfl,rfl⟩
    refine pif_f (by simp [hrn0]) (settle2 hcov hM7 (fun j y hj hy=>?_) (fun k _=>rfl) k07 _ hM9 k9)
    exact kv3 j y hj hy
   ·have hR:=hg.2.2.2 hnil
    have hrn0:0<rn:=by
     rw [←hql]; exact List.length_pos_iff.2 hnil
    refine ⟨fun _ w'=>w'=w7,ldC_of (hB7.cell 2) (pif_f (by simp; omega) rfl),?_⟩
    rintro ⟨⟩ w9 rfl
    refine ldC_of (hB7.cell 2) (lp_of (fun s w'=>∃(j:Nat) (g:List (Int×Int)),s.1=(j:Int)∧j≤rn∧Mp w' r0 g∧mget (neg x.lit) g=1∧
     (∀j y,j<i→es[j]?=some y→mget (neg y.lit) g=0∨(mget (neg y.lit) g=1∧Cov es cl j)∨(mget (neg y.lit) g=2∧¬Cov es cl j))∧(∀k,(∀j y,j≤i→es[j]?=some y→neg y.lit≠k)→mget k g=mget k f3)∧Keep (One r0) w9 w'∧
     (∀o∈x.rs.take j,o≠x.lit→∀(a:Nat) (y:En),es[a]?=some y→y.lit=neg o→0<y.lev→o∉cl→Cov es cl a)) (fun s _=>(rn - s.1).toNat)
     ⟨0,f3,rfl,Nat.zero_le _,hM7,by rw [hget3,if_pos rfl],kv3,fun k _=>rfl,Keep.refl _ _,by simp⟩ ?_)
    rintro ⟨j',⟨⟩⟩ w10 ⟨j,g,rfl,hj,hMg,hone,hkv,hfr,k10,hall⟩
    simp only []
    have k010:Keep (One r0) w w10:=k07.trans k10 fun i _ h=>h
    have hE10:=hE7.keepM hM7 k10
    refine pif_of (fun hlt=>?_) fun hge=>?_
    ·have hlt:j<rn:=by simpa using hlt
     rw [wrap_nat j (by omega)]
     refine (rdl_keepM hq7 hM7 k10).ix hlt fun ad o ho ha=>ldI_of ha (ldI_of ((blk_keepM hB7 hM7 k10).cell 0) ?_)
     have nxt:(o≠x.lit→∀(a:Nat) (y:En),es[a]?=some y→y.lit=neg o→0<y.lev→o∉cl→Cov es cl a)→∀o∈x.rs.take (j+1),o≠x.lit→∀(a:Nat) (y:En),es[a]?=some y→y.lit=neg o→0<y.lev→o∉cl→Cov es cl a:=fun h o' ho'=>by
      rw [take_snoc ho,List.mem_append,List.mem_singleton] at ho'
      rcases ho' with ho' | rfl
      ·exact hall o' ho'
      ·exact h
     by_cases hol:o=x.lit
     ·have e0:(o != x.lit)=false:=by simp [hol]
      rw [e0]
      exact gd_f rfl (gd_f rfl (gd_f rfl (gd_f rfl (gd_f rfl (gd_f rfl (gd_f rfl (gd_f rfl (gd_f rfl (pif_f rfl ⟨⟨j+1,g,rfl,hlt,hMg,hone,hkv,hfr,k10,nxt fun h=>absurd hol h⟩,by omega⟩)))))))))
     ·have e0:(o != x.lit)=true:=by simpa using hol
      rw [e0]
      have hom:=List.mem_of_getElem? ho
      have hfo:fl o=true:=List.all_eq_true.1 hR.1 o hom
      obtain ⟨y,hym,hyl⟩:=hR.2.2 o hom hol
      obtain ⟨a,hya⟩:=List.mem_iff_getElem?.1 hym
      have hai:a<i:=by
       have:=(List.getElem?_eq_some_iff.1 hya).1
       rw [List.length_take] at this; omega
      rw [List.getElem?_take,if_pos hai] at hya
      have hno:neg y.lit=o:=by rw [hyl,neg_neg hfo]
      have uniq:∀(a':Nat) (y':En),es[a']?=some y'→y'.lit=neg o→a'=a∧y'=y:=fun a' y' h1 h2=>by
       have:a'=a:=fm_uniq hF hfo h1 hya (Or.inr h2) (Or.inr hyl)
       subst this
       rw [hya] at h1; injection h1 with h1
       exact ⟨rfl,h1.symm⟩
      have hat:mget o fa=(a:Int)+1:=by rw [←hno]; exact at_of hF hE.pm hya
      have ea:IntKind.wrap .i64 ((a:Int)+1 - 1)=(a:Int):=by rw [IntKind.wrap_i64]; omega
      refine gd_t rfl (ldC_of (hE10.tr.cell 0) (gd_t rfl (ldM_of (hE10.at'.cell 0) (gd_t rfl (lk_of u52 Tryz.underlying3 z3 hE10.am (gd_t rfl ?_))))))
      rw [hat,ea]
      refine hE10.rd.ix hya fun ad ⟨_,_,_,_,c1,_⟩=>gd_t rfl (ldI_of c1 ?_)
      by_cases hlev:0<y.lev
      ·have e1:(cond true (decide (y.lev>0)) false)=true:=by rw [decide_eq_true hlev]; rfl
       refine gd_t e1 (ldM_of (hE10.st.cell 0) (gd_t e1 (lk_of u52 Tryz.underlying3 z3 hE10.sm ?_)))
       by_cases hst:mget o fs=0
       ·have e2:(cond (cond true (decide (y.lev>0)) false) (mget o fs==0) false)=true:=by rw [e1,hst]; rfl
        have hncl:=(hE.sp o).1 hst
        refine gd_t e2 (ldV_of (hE10.fn.cell 0) (gd_t e2 (clF_of ?_)))
        have hkva:Kv es cl g a:=fun j' y' hj' hy'=>hkv j' y' (by omega) hy'
        have go:=ih a hai y w10 g hya hE10 hMg hkva
        rw [hno] at go
        refine cl_of ok101 go fun e w11 ⟨v,he,b',g',hv,hb',hMg',hK',hFr',k11⟩=>⟨b',he.trans (congrArg Ending.returned hv),?_⟩
        have k011:Keep (One r0) w w11:=k010.trans k11 fun i _ h=>h
        have k911:Keep (One r0) w9 w11:=k10.trans k11 fun i _ h=>h
        have hone':mget (neg x.lit) g'=1:=by
         rw [hFr' (neg x.lit) fun j' y' hj' hy'=>keyne (by omega) hy']; exact hone
        have hkv':∀j y,j<i→es[j]?=some y→mget (neg y.lit) g'=0∨(mget (neg y.lit) g'=1∧Cov es cl j)∨(mget (neg y.lit) g'=2∧¬Cov es cl j):=fun j' y' hj' hy'=>by
         by_cases hle:j'≤a
         ·exact hK' j' y' hle hy'
         ·rw [hFr' (neg y'.lit) fun j2 y2 hj2 hy2 e=>by have:=lit_ne hF hy2 hy' e; omega]
          exact hkv j' y' hj' hy'
        have hfr':∀k,(∀j y,j≤i→es[j]?=some y→neg y.lit≠k)→mget k g'=mget k f3:=fun k hk=>by
         rw [hFr' k fun j2 y2 hj2 hy2=>hk j2 y2 (by omega) hy2]; exact hfr k hk
        cases b' with
        | true=>
         refine pif_f (by rw [e2]; rfl) ⟨⟨j+1,g',rfl,hlt,hMg',hone',hkv',hfr',k911,nxt fun _ a' y' h1 h2 _ _=>?_⟩,by omega⟩
         rw [(uniq a' y' h1 h2).1]
         exact hb'.1 rfl
        | false=>
         have hcov:¬Cov es cl i:=fun h=>by
          cases h with
          | mk hx' hne h=>
           rw [hx] at hx'; injection hx' with hx'; subst hx'
           have:=hb'.2 (h o hom hol a y hya hyl hlev hncl)
           cases this
         have hE11:=hE10.keepM hMg k11
         exact pif_t (by rw [e2]; rfl) (ldM_of (hE11.kn.cell 0) (up_of u52 Tryz.underlying3 hMg' fun w12 hM12 k12 _=>settle2 hcov hMg' hkv' hfr' k011 w12 hM12 k12))
       ·have e2:(cond (cond true (decide (y.lev>0)) false) (mget o fs==0) false)=false:=by rw [e1]; simpa using hst
        refine gd_f e2 (gd_f e2 (pif_f (by rw [e2]; rfl) ⟨⟨j+1,g,rfl,hlt,hMg,hone,hkv,hfr,k10,nxt fun _ a' y' h1 h2 _ h4=>absurd ((hE.sp o).2 h4) hst⟩,by omega⟩))
      ·have e1:(cond true (decide (y.lev>0)) false)=false:=by rw [decide_eq_false hlev]; rfl
       have e2:∀z:Bool,(cond (cond true (decide (y.lev>0)) false) z false)=false:=fun z=>by rw [e1]; rfl
       refine gd_f e1 (gd_f e1 (gd_f (e2 _) (gd_f (e2 _) (pif_f (by rw [e2]; rfl) ⟨⟨j+1,g,rfl,hlt,hMg,hone,hkv,hfr,k10,nxt fun _ a' y' h1 h2 h3 _=>?_⟩,by omega⟩))))
       rw [(uniq a' y' h1 h2).2] at h3
       exact absurd h3 hlev
    ·have hge:j=rn:=by simp at hge; omega
     subst hge
     rw [←hql,List.take_length] at hall
     exact fin (Or.inl ⟨hone,Cov.mk hx hnil hall⟩) hMg hkv hfr k010
  ·have h0:¬mget (neg x.lit) f=0:=by simpa using h0
   exact ⟨f,(hK i x (Nat.le_refl _) hx).resolve_left h0,hM,hK,fun k _=>rfl,Keep.refl _ _⟩
 ·rintro ⟨⟩ w1 ⟨f',hd,hM',hK',hFr,k1⟩
  have hE1:=hE.keepM hM k1
  refine ldM_of (hE1.kn.cell 0) (lk_of u52 Tryz.underlying3 z3 hM' ⟨_,f',rfl,?_,hM',hK',hFr,k1⟩)
  rcases hd with ⟨e,hc⟩ | ⟨e,hc⟩
  ·rw [e]; exact ⟨fun _=>hc,fun _=>rfl⟩
  ·rw [e]; exact ⟨fun h=>absurd h (by decide),fun h=>absurd h hc⟩
end
end Go.Proofs.YtmhjehodfggleaaGreat.Learn

/- Shrink: what is asked, what the document covers. -/

set_option linter.unusedVariables false
set_option linter.unusedSimpArgs false
set_option maxRecDepth 100000
namespace Go.Proofs.YtmhjehodfggleaaGreat.Learn
open Go Go.Proofs.YtmhjehodfggleaaGreat.Vc Go.Proofs.YtmhjehodfggleaaGreat.T
open Go.Proofs.YtmhjehodfggleaaGreat.Apart (RdL own_rdl wrap_nat getE own_len copy same take_snoc Sl sv Gro)
section
variable {w:World} {e:TypeId} {p:Option Addr} {n c i:Nat} {xs:List Value}
theorem own_at {K:Addr→Prop} (h:Own w e 1 p n c xs) (hi:i<n) (hK:∀a v,xs[i]?=some v→w.cell? a=some v→K a):ixA p n (i:Int) 1 K:=by
 have hl:=h.len
 refine h.ix (by omega) (by omega) fun b hb=>?_
 rw [Nat.mul_one,Int.toNat_natCast]
 have h':=h
 rw [hb] at h'
 obtain ⟨v,hv⟩:=getE (show i<xs.length by omega)
 exact hK _ v hv (by rw [h'.cell _ (by omega),hv])
theorem app_one {t:TypeId} {B m:Nat} {z v:Value} {K:Option Addr→Nat→Nat→World→Prop} (ht:Tryz.prog.underlying t=some (.slice e)) (hi0:(Tryz.prog.info? e).map (fun i=>(i.zero,i.size,i.bytes))=some (some z,1,B)) (hz:z.cells.size=1) (hB:B≤64)
  (hv:v.oneCell'=true) (h:Own w e 1 p m c xs) (hm:m<1099511627776)
  (hk:∀p' c' w',Own w' e 1 p' (m+1) c' (xs++[v])→Keep (ob p) w w'→(∀i,ob p' i→ob p i∨w.heap.size≤i)→K p' (m+1) c' w') :
  alc w [v] e fun b w7=>∃(p':Option Addr) (n' c':Nat),∃w':World,(Builtin.append_ #[t,t] t #[.slice p m c,.slice (some ⟨b,0,none⟩) 1 1]).run Tryz.prog w7=.ok (.slice p' n' c') w'∧K p' n' c' w':=by
 refine alc_at fun b w7 hb7 h7 k7=>?_
 have z7:=k7.size
 refine app_of2 (e:=e) (sz:=1) (z:=z) (B:=B) ht hi0 hz (by omega) (h.keep0 k7) h7.news1 (fun u hu=>?_) (by simp only [maxLen]; omega) ?_ fun p' c' w' hO' hd=>?_
 ·simp only [List.mem_singleton] at hu; subst hu; exact hv
 ·have:(m+1)*B≤1099511627776*64:=Nat.mul_le_mul (by omega) hB
  omega
 ·rcases hd with ⟨e1,e2,_,k⟩ | ⟨e1,k⟩
  ·exact hk p' c' w' hO' ((k7.none).trans k fun _ _ h=>h) fun i hi=>Or.inl (by rw [←e1]; exact hi)
  ·exact hk p' c' w' hO' ((k7.none).trans k.none fun _ _ h=>h) fun i hi=>Or.inr (by have:=e1 i hi; omega)
end
theorem info3:(Tryz.prog.info? 3).map (fun i=>(i.zero,i.size,i.bytes))=some (some (I 0),1,8):=by kernel_rfl
theorem info4:(Tryz.prog.info? 4).map (fun i=>(i.zero,i.size,i.bytes))=some (some (Value.bool false),1,1):=by kernel_rfl
def Fals (es:List En) (cs:List Int):Prop:=∀l∈cs,∃y∈es,y.lit=neg l
def Askd (es:List En) (cs:List Int) (v:Int):Prop:=
 (v=1∧¬(Fm es∧cs.all fl=true))∨(v=2∧¬Fals es cs∧Fm es∧cs.all fl=true)∨(v=0∧Fals es cs∧Fm es∧cs.all fl=true)
theorem Askd.unique {es:List En} {cs:List Int} {v u:Int} (h:Askd es cs v) (h':Askd es cs u):v=u:=by
 rcases h with ⟨rfl,a⟩ | ⟨rfl,a,b⟩ | ⟨rfl,a,b⟩<;>rcases h' with ⟨rfl,a'⟩ | ⟨rfl,a',b'⟩ | ⟨rfl,a',b'⟩
 ·rfl
 ·exact absurd b' a
 ·exact absurd b' a
 ·exact absurd b a'
 ·rfl
 ·exact absurd a' a
 ·exact absurd b a'
 ·exact absurd a a'
 ·rfl
section
variable {w w':World} {p q:Option Addr} {n m c d:Nat} {es:List En} {cs:List Int}
theorem asked43 (hE:RdE w p n es) (hn:n≤1048576) (hr:∀x∈es,x.rs.length≤1048576) (hC:RdL w q m cs) (hm:m≤1048576) {r:Nat} {fa:List (Int×Int)} (hM:Mp w r fa) (hP:Pm fa es) :
  Calls Tryz.prog 99 #[.slice p n c,.slice q m d,.map (some r)] w fun e w'=>∃v,e=.returned (I v)∧Askd es cs v∧Keep None w w':=by
 refine (V99_calls p n c q m d (some r) w (fun v w'=>∃u,v=I u∧Askd es cs u∧Keep None w w') ?_).mono fun e w' ⟨v,he,u,hv,hk⟩=>⟨u,by rw [he,hv],hk⟩
 unfold V99
 have hcl:=hC.len
 refine cl_of ok136 (formed10 hE (by omega) (fun x hx=>by have:=hr x hx; omega)) fun e w1 ⟨b,he,hb,k1⟩=>⟨b,he,?_⟩
 cases b with
 | false=>exact gd_f rfl (pif_t rfl ⟨1,rfl,Or.inl ⟨rfl,fun h=>by have:=hb.2 h.1; cases this⟩,k1⟩)
 | true=>
  have hF:=hb.1 rfl
  refine gd_t rfl (cl_of ok89 (sound39 (hC.keep0 k1) (by omega)) fun e w2 ⟨he,k2⟩=>⟨_,he,?_⟩)
  have k02:=k1.then0 k2
  cases hs:cs.all fl with
  | false=>exact pif_t rfl ⟨1,rfl,Or.inl ⟨rfl,fun h=>by have:=h.2; rw [hs] at this; cases this⟩,k02⟩
  | true=>
   refine pif_f rfl (lp_of (fun s w'=>∃i:Nat,s.1=(i:Int)∧i≤m∧Keep None w w'∧Fals es (cs.take i)) (fun s _=>(m - s.1).toNat) ⟨0,rfl,Nat.zero_le _,k02,fun l hl=>by cases hl⟩ ?_)
   rintro ⟨i',⟨⟩⟩ w3 ⟨i,rfl,hi,k3,hfa⟩
   simp only []
   refine pif_of (fun hlt=>?_) fun hge=>?_
   ·have hlt:i<m:=by simpa using hlt
    rw [wrap_nat i (by omega)]
    refine (hC.keep0 k3).ix hlt fun a l hl ha=>ldI_of ha (lk_of u52 Tryz.underlying3 z3 (hM.keep0 k3) ?_)
    have hfl:fl l=true:=List.all_eq_true.1 hs l (List.mem_of_getElem? hl)
    rcases hP l with ⟨e,hno⟩ | ⟨k,x,e,hx,hxl⟩
    ·rw [e]
     refine pif_t rfl ⟨2,rfl,Or.inr (Or.inl ⟨rfl,fun h=>?_,hF,hs⟩),k3⟩
     obtain ⟨y,hy,hyl⟩:=h l (List.mem_of_getElem? hl)
     exact hno y hy (by rw [hyl,neg_neg hfl])
    ·rw [e]
     refine pif_f (by simp; omega) ⟨⟨i+1,rfl,hlt,k3,fun l' hl'=>?_⟩,by omega⟩
     rw [take_snoc hl,List.mem_append,List.mem_singleton] at hl'
     rcases hl' with hl' | rfl
     ·exact hfa l' hl'
     ·exact ⟨x,List.mem_of_getElem? hx,by rw [←hxl,neg_neg (hF k x hx).1]⟩
   ·have hge:i=m:=by simp at hge; omega
    subst hge
    rw [←hcl,List.take_length] at hfa
    exact ⟨0,rfl,Or.inr (Or.inr ⟨rfl,hfa,hF,hs⟩),k3⟩
def Cv (es:List En) (cl:List Int) (x:En) (os:List Int):Prop:=∀o∈os,o≠x.lit→∀(a:Nat) (y:En),es[a]?=some y→y.lit=neg o→0<y.lev→o∉cl→Cov es cl a
theorem cov_iff {i:Nat} {x:En} {cl:List Int} (hx:es[i]?=some x):Cov es cl i↔x.rs≠[]∧Cv es cl x x.rs:=by
 constructor
 ·intro h
  cases h with
  | mk hx' hne h=>rw [hx] at hx'; injection hx' with hx'; subst hx'; exact ⟨hne,h⟩
 ·exact fun h=>Cov.mk hx h.1 h.2
end
end Go.Proofs.YtmhjehodfggleaaGreat.Learn

/- Shrink, the document's. -/

set_option linter.unusedVariables false
set_option linter.unusedSimpArgs false
set_option maxRecDepth 100000
namespace Go.Proofs.YtmhjehodfggleaaGreat.Learn
open Go Go.Proofs.YtmhjehodfggleaaGreat.Vc Go.Proofs.YtmhjehodfggleaaGreat.T
open Go.Proofs.YtmhjehodfggleaaGreat.Apart (RdL own_rdl wrap_nat getE own_len copy same take_snoc Sl sv Gro)
theorem slA_zero (p:Option Addr) (c sz:Nat):slA p c 0 sz=p:=by
 unfold slA
 split
 ·rfl
 ·cases p with
  | none=>rfl
  | some a=>simp [Addr.add]
def Kp (es:List En) (cl:List Int) (i:Nat) (l:Int):Prop:=l∉cl.take i∧(i=0∨∃(a:Nat) (y:En),es[a]?=some y∧y.lit=neg l∧0<y.lev∧¬Cov es cl a)
open Classical in
noncomputable def shr (es:List En) (cl:List Int):Nat→List Int
 | 0=>[]
 | i+1=>shr es cl i++(if Kp es cl i (cl.getD i 0) then [cl.getD i 0] else [])
theorem shr_yes {es:List En} {cl:List Int} {i:Nat} {l:Int} (hl:cl[i]?=some l) (h:Kp es cl i l):shr es cl (i+1)=shr es cl i++[l]:=by
 have e:cl.getD i 0=l:=by rw [List.getD_eq_getElem?_getD,hl]; rfl
 rw [shr,e,if_pos h]
theorem shr_no {es:List En} {cl:List Int} {i:Nat} {l:Int} (hl:cl[i]?=some l) (h:¬Kp es cl i l):shr es cl (i+1)=shr es cl i:=by
 have e:cl.getD i 0=l:=by rw [List.getD_eq_getElem?_getD,hl]; rfl
 rw [shr,e,if_neg h,List.append_nil]
theorem shr_len (es:List En) (cl:List Int):∀i,(shr es cl i).length≤i:=by
 intro i
 induction i with
 | zero=>exact Nat.le_refl _
 | succ i ih=>
  rw [shr,List.length_append]
  split
  ·simp; omega
  ·simp; omega
def Shrunk (es:List En) (cs:List Int) (w:World) (v:Value) (w':World):Prop:=∃(u:Int) (q:Option Addr) (qn qc:Nat) (L:List Int),v=.tuple #[.slice q qn qc,I u]∧Askd es cs u∧Own w' 3 1 q qn qc (L.map I)∧(∀j,ob q j→w.heap.size≤j)∧(u=0→L=shr es cs cs.length)∧(u≠0→L=[])∧Keep None w w'
theorem kp_iff {es:List En} {cl:List Int} (hF:Fm es) {i:Nat} {l:Int} (hfl:fl l=true) {a:Nat} {y:En} (hy:es[a]?=some y) (hyl:y.lit=neg l) (hi:i≠0) (hno:l∉cl.take i):Kp es cl i l↔0<y.lev∧¬Cov es cl a:=by
 constructor
 ·rintro ⟨_,h⟩
  rcases h with h | ⟨a',y',h1,h2,h3,h4⟩
  ·exact absurd h hi
  ·have e:=fm_uniq hF hfl h1 hy (Or.inr h2) (Or.inr hyl)
   subst e
   rw [hy] at h1; injection h1 with h1
   subst h1
   exact ⟨h3,h4⟩
 ·exact fun h=>⟨hno,Or.inr ⟨a,y,hy,hyl,h.1,h.2⟩⟩
section
variable {w w':World} {p q:Option Addr} {n m c d:Nat} {es:List En} {cs:List Int}
end
end Go.Proofs.YtmhjehodfggleaaGreat.Learn
