/- Maps of int keys, of which the keys alone are told: made, asked, a key put, a key taken out. -/

import Derived.Test.YtmhjehodfggleaaGreatMVcM
import Derived.Test.YtmhjehodfggleaaGreatProg
import Derived.Test.YtmhjehodfggleaaGreatMTTrail
set_option linter.unusedVariables false
set_option linter.unusedSimpArgs false
namespace Go.Proofs.YtmhjehodfggleaaGreat.Vc
open Go
def Mk (V:Value→Prop) (w:World) (r:Nat) (ks:List Int):Prop:=∃es clock,w.heap[r]?=some (.map es clock)∧es.toList.map (fun e=>e.key)=ks.map (fun k=>(.int .i64 k:Value))∧∀e∈es.toList,V e.val
theorem Mk.keep {V:Value→Prop} {S:Nat→Prop} {w w':World} {r:Nat} {ks:List Int} (h:Mk V w r ks) (hk:Keep S w w') (hs:¬S r):Mk V w' r ks:=by
 obtain ⟨es,clock,hb,he⟩:=h
 exact ⟨es,clock,by rw [hk.block r (Array.getElem?_eq_some_iff.1 hb).1 hs]; exact hb,he⟩
theorem Mk.keep0 {V:Value→Prop} {w w':World} {r:Nat} {ks:List Int} (h:Mk V w r ks) (hk:Keep None w w'):Mk V w' r ks:=h.keep hk fun h=>h
theorem Mk.lt {V:Value→Prop} {w:World} {r:Nat} {ks:List Int} (h:Mk V w r ks):r<w.heap.size:=by
 obtain ⟨es,clock,hb,he⟩:=h
 exact (Array.getElem?_eq_some_iff.1 hb).1
theorem mkmapK_of {V:Value→Prop} {P:Program} {t:TypeId} {w:World} {K:Option Nat→World→Prop} (hk:∀r w',r=w.heap.size→Mk V w' r []→Keep None w w'→K (some r) w') :
  ∃x:Option Nat,∃w1:World,(Instr.makeMap t none).run P w=.ok (.map x) w1∧K x w1:=
 ⟨some w.heap.size,w.alloc (.map #[] 0),by simp [Instr.makeMap],hk _ _ rfl ⟨#[],0,(MapKept.heap_alloc w _).1,rfl,fun e h=>by simp at h⟩ ((Keep.refl _ w).alloc _)⟩
theorem findNow_keys (k:Int):∀(l:List MapEntry) (ks:List Int) (i:Nat),l.map (fun e=>e.key)=ks.map (fun k=>(.int .i64 k:Value))→
  (k∉ks∧Instr.findNow (.int .i64) (.int .i64 k) l i=some none)∨
  (k∈ks∧∃j e,Instr.findNow (.int .i64) (.int .i64 k) l i=some (some (i+j,e.val))∧l[j]?=some e∧e.key=.int .i64 k∧(l.eraseIdx j).map (fun e=>e.key)=(ks.erase k).map (fun k=>(.int .i64 k:Value))):=by
 intro l
 induction l with
 | nil=>
  intro ks i h
  cases ks with
  | nil=>exact Or.inl ⟨by simp,rfl⟩
  | cons p f=>cases h
 | cons e l ih=>
  intro ks i h
  cases ks with
  | nil=>cases h
  | cons p ks=>
   simp only [List.map_cons,List.cons.injEq] at h
   obtain ⟨hk,h⟩:=h
   by_cases hp:p=k
   ·subst hp
    refine Or.inr ⟨by simp,0,e,?_,rfl,hk,?_⟩
    ·simp [Instr.findNow,hk,Instr.sameNow]
    ·simp [h]
   ·have hs:Instr.sameNow (.int .i64) (.int .i64 k) e.key=some false:=by rw [hk]; simp [Instr.sameNow]; exact fun e=>hp e.symm
    rcases ih ks (i+1) h with ⟨h1,h2⟩ | ⟨h1,j,e',h2,h3,h4,h5⟩
    ·exact Or.inl ⟨by simp [h1,Ne.symm hp],by simp only [Instr.findNow,hs]; exact h2⟩
    ·refine Or.inr ⟨by simp [h1],j+1,e',?_,by simpa using h3,h4,?_⟩
     ·simp only [Instr.findNow,hs]
      rw [h2]
      congr 3
      omega
     ·rw [List.erase_cons_tail (by simpa using hp)]
      simp [h5,hk]
section
variable {V:Value→Prop} {P:Program} {mty kt et:TypeId} {w:World} {r:Nat} {ks:List Int}
theorem lkK_of {z:Value} {K:Value→Bool→World→Prop} {k:Int} (hm:P.underlying mty=some (.map kt et)) (hd:P.underlying kt=some (.int .i64)) (hz:(P.info? et).map (·.zero)=some (some z)) (h:Mk V w r ks) (hk:∀v,(k∈ks→V v)→(k∉ks→v=z)→K v (decide (k∈ks)) w) :
  ∃v:Value,∃b:Bool,∃w':World,(Instr.lookup mty (.map (some r)) (.int .i64 k) true).run P w=.ok (.tuple #[v,.bool b]) w'∧K v b w':=by
 obtain ⟨es,clock,hb,he,hv⟩:=h
 have hkey:MapKept.IsKey (.int .i64) (.int .i64 k):=rfl
 obtain ⟨i,hi,hzi⟩:=Option.map_eq_some_iff.1 hz
 have hzv:(zeroValue et).run P w=.ok z w:=by
  simp [zeroValue,typeInfo,hi,hzi,Result.andThen]
 rcases findNow_keys k es.toList ks 0 he with ⟨h1,h2⟩ | ⟨h1,j,e,h2,h3,_⟩
 ·refine ⟨z,false,w,?_,?_⟩
  ·simp [Instr.lookup,run_underlying hm,MapKept.run_getObj_map hb,MapKept.run_checkKey hd hkey,MapKept.run_findKey hd h2,hzv,Result.andThen]
  ·have:=hk z (fun h=>absurd h h1) (fun _=>rfl)
   rwa [decide_eq_false h1] at this
 ·refine ⟨e.val,true,w,?_,?_⟩
  ·simp [Instr.lookup,run_underlying hm,MapKept.run_getObj_map hb,MapKept.run_checkKey hd hkey,MapKept.run_findKey hd h2,Result.andThen]
  ·have:=hk e.val (fun _=>hv e (List.mem_of_getElem? h3)) (fun h=>absurd h1 h)
   rwa [decide_eq_true h1] at this
theorem upK_of {v:Value} {K:World→Prop} {k:Int} (hm:P.underlying mty=some (.map kt et)) (hd:P.underlying kt=some (.int .i64)) (h:Mk V w r ks) (hn:k∉ks) (hv:V v) (hk:∀w',Mk V w' r (ks++[k])→Keep (One r) w w'→w'.heap.size=w.heap.size→K w') :
  ∃w':World,(Instr.mapUpdate mty (.map (some r)) (.int .i64 k) v).run P w=.ok () w'∧K w':=by
 obtain ⟨es,clock,hb,he,hV⟩:=h
 have hkey:MapKept.IsKey (.int .i64) (.int .i64 k):=rfl
 have kp:∀o,Keep (One r) w {w with heap:=w.heap.setIfInBounds r o}:=fun o=>⟨rfl,rfl,rfl,by simp,fun i hi hn=>(MapKept.heap_set hb).2 i hn⟩
 rcases findNow_keys k es.toList ks 0 he with ⟨h1,h2⟩ | ⟨h1,_⟩
 ·refine ⟨{w with heap:=w.heap.setIfInBounds r (.map (es.push {key:=.int .i64 k,val:=v,born:=clock}) (clock+1))},?_,hk _ ⟨_,_,(MapKept.heap_set hb).1,?_,fun e he=>?_⟩ (kp _) (by simp)⟩
  ·simp [Instr.mapUpdate,run_underlying hm,MapKept.run_getObj_map hb,MapKept.run_checkKey hd hkey,MapKept.run_findKey hd h2,MapKept.run_setObj_map _ hb,Result.andThen]
  ·simp [he]
  ·rw [Array.toList_push] at he
   rcases List.mem_append.1 he with he | he
   ·exact hV e he
   ·rw [List.mem_singleton.1 he]; exact hv
 ·exact absurd h1 hn
theorem delK_of {ty:TypeId} {K:World→Prop} {k:Int} (hm:P.underlying mty=some (.map kt et)) (hd:P.underlying kt=some (.int .i64)) (h:Mk V w r ks) (hk:∀w',Mk V w' r (ks.erase k)→Keep (One r) w w'→w'.heap.size=w.heap.size→K w') :
  ∃w':World,(Builtin.delete_ #[mty,kt] ty #[.map (some r),.int .i64 k]).run P w=.ok (.tuple #[]) w'∧K w':=by
 obtain ⟨es,clock,hb,he,hV⟩:=h
 have hkey:MapKept.IsKey (.int .i64) (.int .i64 k):=rfl
 have kp:∀o,Keep (One r) w {w with heap:=w.heap.setIfInBounds r o}:=fun o=>⟨rfl,rfl,rfl,by simp,fun i hi hn=>(MapKept.heap_set hb).2 i hn⟩
 rcases findNow_keys k es.toList ks 0 he with ⟨h1,h2⟩ | ⟨h1,j,e,h2,h3,h4,h5⟩
 ·refine ⟨{w with heap:=w.heap.setIfInBounds r (.map es clock)},?_,hk _ ⟨es,clock,(MapKept.heap_set hb).1,by rw [List.erase_of_not_mem h1]; exact he,hV⟩ (kp _) (by simp)⟩
  simp [Builtin.delete_,run_underlying hm,MapKept.run_getObj_map hb,MapKept.run_checkKey hd hkey,MapKept.run_findKey hd h2,MapKept.run_setObj_map _ hb,Result.andThen]
 ·refine ⟨{w with heap:=w.heap.setIfInBounds r (.map (es.eraseIdxIfInBounds j) clock)},?_,hk _ ⟨_,_,(MapKept.heap_set hb).1,?_,fun x hx=>?_⟩ (kp _) (by simp)⟩
  ·simp [Builtin.delete_,run_underlying hm,MapKept.run_getObj_map hb,MapKept.run_checkKey hd hkey,MapKept.run_findKey hd h2,MapKept.run_setObj_map _ hb,Result.andThen]
  ·have hsub:(es.eraseIdxIfInBounds j).toList=es.toList.eraseIdx j:=by
    rw [Array.eraseIdxIfInBounds]
    split
    ·rw [Array.toList_eraseIdx]
    ·rename_i hn
     rw [List.eraseIdx_of_length_le (by simpa using hn)]
   rw [hsub]; exact h5
  ·have hsub:(es.eraseIdxIfInBounds j).toList=es.toList.eraseIdx j:=by
    rw [Array.eraseIdxIfInBounds]
    split
    ·rw [Array.toList_eraseIdx]
    ·rename_i hn
     rw [List.eraseIdx_of_length_le (by simpa using hn)]
   rw [hsub] at hx
   exact hV x ((List.eraseIdx_sublist ..).subset hx)
end
end Go.Proofs.YtmhjehodfggleaaGreat.Vc

/- Lists of ints in memory: what the other texts need of the Apart texts, where no ApartInts is reached. -/

set_option linter.unusedVariables false
set_option linter.unusedSimpArgs false
set_option maxRecDepth 100000
namespace Go.Proofs.YtmhjehodfggleaaGreat.Apart
open Go Go.Proofs.YtmhjehodfggleaaGreat.Vc
abbrev J (n:Int):Value:=.int .i64 n
abbrev Sl:=Option Addr×Nat×Nat
def sv (x:Sl):Value:=.slice x.1 x.2.1 x.2.2
theorem getE {α:Type} {l:List α} {k:Nat} (h:k<l.length):∃x,l[k]?=some x:=⟨_,List.getElem?_eq_getElem h⟩
theorem own_len {w:World} {e:TypeId} {p:Option Addr} {n c:Nat} {ys:List Int} (h:Own w e 1 p n c (ys.map J)):ys.length=n:=by
 have:=h.len; simpa using this
theorem wrap_nat (i:Nat) (h:i<4611686018427387904):IntKind.wrap .i64 ((i:Int)+1)=((i+1:Nat):Int):=by rw [IntKind.wrap_i64]; omega
theorem own_wr {w:World} {x:Sl} {ys:List Int} {i:Nat} {v:Int} {K:World→Prop} (h:Own w 3 1 x.1 x.2.1 x.2.2 (ys.map J)) (hi:i<x.2.1)
  (hK:∀w',Own w' 3 1 x.1 x.2.1 x.2.2 ((ys.set i v).map J)→Keep (ob x.1) w w'→K w'):ixA x.1 x.2.1 (i:Int) 1 fun a=>st w (a.add 0) (J v) K:=by
 refine h.ix (by omega) (by omega) fun b hb=>?_
 rw [Nat.mul_one,Int.toNat_natCast,add_mk,Nat.add_zero]
 have h':=h
 rw [hb] at h'
 refine h'.st (by omega) rfl fun w' hO hk _=>?_
 refine hK w' ?_ (hk.mono fun j _ hj=>⟨_,hb,hj.symm⟩)
 rw [List.map_set,hb]
 exact hO
theorem own_rd {w:World} {x:Sl} {ys:List Int} {i:Nat} {v:Int} {K:Int→Prop} (h:Own w 3 1 x.1 x.2.1 x.2.2 (ys.map J)) (hi:i<x.2.1) (hv:ys[i]?=some v)
  (hK:K v):ixA x.1 x.2.1 (i:Int) 1 fun a=>ldI .i64 w a K:=by
 refine h.ix (by omega) (by omega) fun b hb=>?_
 rw [Nat.mul_one,Int.toNat_natCast]
 have h':=h
 rw [hb] at h'
 exact ldI_of (by rw [h'.cell _ (by omega),List.getElem?_map,hv]; rfl) hK
theorem own_rd2 {w:World} {x:Sl} {ys:List Int} {i:Nat} {v:Int} {K:Addr→Prop} (h:Own w 3 1 x.1 x.2.1 x.2.2 (ys.map J)) (hi:i<x.2.1) (hv:ys[i]?=some v)
  (hK:∀a,w.cell? a=some (J v)→K a):ixA x.1 x.2.1 (i:Int) 1 K:=by
 refine h.ix (by omega) (by omega) fun b hb=>?_
 rw [Nat.mul_one,Int.toNat_natCast]
 have h':=h
 rw [hb] at h'
 exact hK _ (by rw [h'.cell _ (by omega),List.getElem?_map,hv]; rfl)
theorem app1 {w:World} {g:Sl} {ys:List Int} {v:Int} {K:Option Addr→Nat→Nat→World→Prop} (hO:Own w 3 1 g.1 g.2.1 g.2.2 (ys.map J)) (hs:g.2.1<17592186044416)
  (hk:∀g':Sl,∀w',g'.2.1=g.2.1+1→Own w' 3 1 g'.1 g'.2.1 g'.2.2 ((ys++[v]).map J)→((g'.1=g.1∧g'.2.2=g.2.2∧Keep (ob g.1) w w')∨((∀i,ob g'.1 i→w.heap.size≤i)∧Keep None w w'))→K g'.1 g'.2.1 g'.2.2 w') :
  alc w [J v] 3 fun b w7=>∃(p':Option Addr) (n' c':Nat),∃w':World,(Builtin.append_ #[49,49] 49 #[.slice g.1 g.2.1 g.2.2,.slice (some ⟨b,0,none⟩) 1 1]).run Tryz.prog w7=.ok (.slice p' n' c') w'∧K p' n' c' w':=by
 refine alc_at fun b w7 hb7 h7 k7=>?_
 have z7:=k7.size
 refine app_of2 (e:=3) (sz:=1) (z:=J 0) (B:=8) Tryz.underlying49 (by kernel_rfl) rfl (by omega) (hO.keep0 k7) h7.news1 (fun u hu=>?_) (by simp only [maxLen]; omega) (by omega) fun p' c' w' hO' hd=>?_
 ·simp only [List.mem_singleton] at hu; subst hu; rfl
 ·refine hk (p',g.2.1+1,c') w' rfl (by simpa using hO') ?_
  rcases hd with ⟨e1,e2,_,k⟩ | ⟨e1,k⟩
  ·exact Or.inl ⟨e1,e2,(k7.none).trans k fun _ _ h=>h⟩
  ·exact Or.inr ⟨fun i hi=>by have:=e1 i hi; omega,k7.then0 k⟩
end Go.Proofs.YtmhjehodfggleaaGreat.Apart

/- CopyInts and SameInts. -/

set_option linter.unusedVariables false
set_option linter.unusedSimpArgs false
set_option maxRecDepth 100000
namespace Go.Proofs.YtmhjehodfggleaaGreat.Apart
open Go Go.Proofs.YtmhjehodfggleaaGreat.Vc Go.Proofs.YtmhjehodfggleaaGreat.T
structure RdL (w:World) (p:Option Addr) (n:Nat) (cs:List Int):Prop where
 len:cs.length=n
 cell:∀(i:Nat) (x:Int),cs[i]?=some x→∃a,p=some a∧w.cell? (a.add i)=some (J x)
theorem RdL.keep {S:Nat→Prop} {w w':World} {p:Option Addr} {n:Nat} {cs:List Int} (h:RdL w p n cs) (hk:Keep S w w') (hs:∀i,ob p i→¬S i):RdL w' p n cs:=
 ⟨h.len,fun i x hx=>by
  obtain ⟨a,e,hc⟩:=h.cell i x hx
  refine ⟨a,e,hk.cell hc fun h=>hs _ ⟨a,e,rfl⟩ ?_⟩
  have:(a.add i).block=a.block:=by unfold Addr.add; split<;>rfl
  rwa [this] at h⟩
theorem RdL.keep0 {w w':World} {p:Option Addr} {n:Nat} {cs:List Int} (h:RdL w p n cs) (hk:Keep None w w'):RdL w' p n cs:=h.keep hk fun _ _ h=>h
theorem RdL.ix {w:World} {p:Option Addr} {n:Nat} {cs:List Int} {i:Nat} {K:Addr→Prop} (h:RdL w p n cs) (h1:i<n) (hk:∀a x,cs[i]?=some x→w.cell? a=some (J x)→K a):ixA p n (i:Int) 1 K:=by
 have hl:=h.len
 obtain ⟨x,hx⟩:=getE (show i<cs.length by omega)
 obtain ⟨a,rfl,hc⟩:=h.cell i x hx
 refine ⟨by omega,by omega,?_⟩
 show K _
 rw [Nat.mul_one,Int.toNat_natCast]
 exact hk _ x hx hc
theorem own_rdl {w:World} {p:Option Addr} {n c:Nat} {xs:List Int} (h:Own w 3 1 p n c (xs.map J)):RdL w p n xs:=by
 have hl:=own_len h
 refine ⟨hl,fun i x hx=>?_⟩
 have hi:=(List.getElem?_eq_some_iff.1 hx).1
 rcases h with ⟨_,rfl,_,_⟩ | ⟨b,cs,rfl,hB,h1,h2,h3,h4⟩
 ·omega
 ·refine ⟨_,rfl,?_⟩
  rw [add_mk,Nat.zero_add,hB.cell]
  have:(cs.take (n*1))[i]?=some (J x):=by rw [h4,List.getElem?_map,hx]; rfl
  rw [List.getElem?_take,if_pos (by omega)] at this
  exact this
theorem take_snoc {cs:List Int} {i:Nat} {x:Int} (hx:cs[i]?=some x):cs.take (i+1)=cs.take i++[x]:=by
 rw [List.take_add_one,hx]; rfl
def New (w:World) (xs:List Int) (v:Value) (w':World):Prop:=∃p c,v=.slice p xs.length c∧Own w' 3 1 p xs.length c (xs.map J)∧(∀i,ob p i→w.heap.size≤i)∧Keep None w w'
structure Gro (w0 w:World) (p:Option Addr) (m c:Nat) (xs:List Int):Prop where
 own:Own w 3 1 p m c (xs.map J)
 new:∀i,ob p i→w0.heap.size≤i
 keep:Keep None w0 w
theorem Gro.nil (w:World):Gro w w none 0 0 []:=⟨Own.nil _ _ _,(fun i ⟨a,h,_⟩=>by cases h),Keep.refl _ _⟩
theorem Gro.len {w0 w:World} {p:Option Addr} {m c:Nat} {xs:List Int} (h:Gro w0 w p m c xs):xs.length=m:=own_len h.own
theorem Gro.keep0 {w0 w w1:World} {p:Option Addr} {m c:Nat} {xs:List Int} (h:Gro w0 w p m c xs) (hk:Keep None w w1):Gro w0 w1 p m c xs:=⟨h.own.keep0 hk,h.new,h.keep.then0 hk⟩
theorem Gro.app {w0 w:World} {p:Option Addr} {m c:Nat} {xs:List Int} {v:Int} {K:Option Addr→Nat→Nat→World→Prop} (h:Gro w0 w p m c xs) (hs:m<17592186044416)
  (hk:∀p' c' w',Gro w0 w' p' (m+1) c' (xs++[v])→K p' (m+1) c' w') :
  alc w [J v] 3 fun b w7=>∃(p':Option Addr) (n' c':Nat),∃w':World,(Builtin.append_ #[49,49] 49 #[.slice p m c,.slice (some ⟨b,0,none⟩) 1 1]).run Tryz.prog w7=.ok (.slice p' n' c') w'∧K p' n' c' w':=by
 refine app1 (g:=(p,m,c)) h.own hs fun g' w' e1 hO hd=>?_
 simp only [] at e1 hd
 rw [e1] at hO ⊢
 refine hk g'.1 g'.2.2 w' ⟨hO,fun i hi=>?_,?_⟩
 ·rcases hd with ⟨e,_,_⟩ | ⟨e,_⟩
  ·rw [e] at hi; exact h.new i hi
  ·have:=e i hi; have:=h.keep.size; omega
 ·rcases hd with ⟨_,_,k⟩ | ⟨_,k⟩
  ·exact h.keep.trans k fun i hi hh=>by have:=h.new i hh; omega
  ·exact h.keep.then0 k
theorem Gro.done {w0 w:World} {p:Option Addr} {m c:Nat} {xs:List Int} (h:Gro w0 w p m c xs):New w0 xs (.slice p m c) w:=by
 have hl:=h.len
 subst hl
 exact ⟨p,c,rfl,h.own,h.new,h.keep⟩
section
variable {w:World} {p:Option Addr} {n c:Nat} {cs:List Int}
theorem copy (h:RdL w p n cs) (hn:n≤17592186044416):Calls Tryz.prog 21 #[.slice p n c] w fun e w'=>∃v,e=.returned v∧New w cs v w':=by
 refine V21_calls p n c w (New w cs) ?_
 unfold V21
 have hlen:=h.len
 refine lp_of (fun s w1=>∃i:Nat,s.2.1=i∧i≤n∧s.1.2.1=i∧Gro w w1 s.1.1 s.1.2.1 s.1.2.2 (cs.take i)) (fun s _=>(n - s.2.1).toNat) ⟨0,rfl,Nat.zero_le _,rfl,Gro.nil w⟩ ?_
 rintro ⟨⟨q,m,d⟩,i',⟨⟩⟩ w1 ⟨i,rfl,hi,hm,hG⟩
 simp only [] at hm hG ⊢
 subst hm
 refine pif_of (fun hlt=>?_) fun hge=>?_
 ·have hlt:m<n:=by simpa using hlt
  refine (h.keep0 hG.keep).ix hlt fun a x hx ha=>ldI_of ha ?_
  rw [wrap_nat m (by omega)]
  exact hG.app (by omega) fun p' c' w' hG'=>⟨⟨m+1,rfl,hlt,rfl,by rw [take_snoc hx]; exact hG'⟩,by omega⟩
 ·have hge:m=n:=by simp at hge; omega
  subst hge
  rw [←hlen,List.take_length] at hG
  rw [←hlen]
  exact hG.done
theorem same {q:Option Addr} {m d:Nat} {ys:List Int} (hx:RdL w p n cs) (hy:RdL w q m ys) (hn:n≤17592186044416) :
  Calls Tryz.prog 14 #[.slice p n c,.slice q m d] w fun e w'=>e=.returned (.bool (decide (cs=ys)))∧Keep None w w':=by
 refine (V14_calls p n c q m d w (fun v w'=>v=.bool (decide (cs=ys))∧Keep None w w') ?_).mono fun e w' ⟨v,he,hv,hk⟩=>⟨by rw [he,hv],hk⟩
 unfold V14
 have lx:=hx.len
 have ly:=hy.len
 refine pif_of (fun h=>?_) fun h=>?_
 ·have h:¬n=m:=by simp at h; omega
  refine ⟨?_,Keep.refl _ _⟩
  congr 1
  symm
  rw [decide_eq_false_iff_not]
  intro e
  rw [e] at lx; omega
 have h:n=m:=by simp at h; omega
 subst h
 refine lp_of (fun s w1=>∃i:Nat,s.1=i∧i≤n∧cs.take i=ys.take i∧Keep None w w1) (fun s _=>(n - s.1).toNat) ⟨0,rfl,Nat.zero_le _,rfl,Keep.refl _ _⟩ ?_
 rintro ⟨i',⟨⟩⟩ w1 ⟨i,rfl,hi,heq,hk⟩
 simp only []
 refine pif_of (fun hlt=>?_) fun hge=>?_
 ·have hlt:i<n:=by simpa using hlt
  refine (hx.keep0 hk.drew).ix hlt fun a x hx1 ha=>ldI_of ha ((hy.keep0 hk.drew).ix hlt fun b y hy1 hb=>ldI_of hb ?_)
  rw [wrap_nat i (by omega)]
  refine pif_of (fun hne=>⟨?_,hk.drew⟩) fun he=>?_
  ·have hne:¬x=y:=by simpa using hne
   congr 1
   symm
   rw [decide_eq_false_iff_not]
   intro e
   rw [e,hy1] at hx1
   injection hx1 with hx1
   exact hne hx1.symm
  ·have he:x=y:=by simpa using he
   subst he
   exact ⟨⟨i+1,rfl,hlt,by rw [take_snoc hx1,take_snoc hy1,heq],hk.drew⟩,by omega⟩
 ·have hge:i=n:=by simp at hge; omega
  subst hge
  refine ⟨?_,hk⟩
  congr 1
  symm
  rw [decide_eq_true_eq]
  rw [←lx,List.take_length,lx,←ly,List.take_length] at heq
  exact heq
end
end Go.Proofs.YtmhjehodfggleaaGreat.Apart

/- The conditions under which the functions printed here return, as propositions over typed values; each is the machine's own, by the generator's theorem. -/

set_option linter.unusedVariables false
set_option maxRecDepth 100000
namespace Go.Proofs.YtmhjehodfggleaaGreat.T
open Go Go.Proofs.YtmhjehodfggleaaGreat.Vc
def V91 (a0:Option Addr) (a0n:Nat) (a0c:Nat) (a1:Value) (w:World) (R:Value→World→Prop):Prop:=
 cl Tryz.prog 134 [.int .u64 (IntKind.wrap .u64 (a0n:Int))] w fun e4 w1=>∃x3:Int,e4=Ending.returned (.int .i64 x3)∧
 cl Tryz.prog 133 [.slice a0 a0n a0c,.int .i64 0,.int .i64 (a0n:Int),.int .i64 x3,a1] w1 fun e5 w2=>e5=Ending.returned (.tuple #[])∧
 R (.tuple #[]) w2
def An91:An:=.seq (.leaf) (.leaf)
theorem V91_eq (a0:Option Addr) (a0n:Nat) (a0c:Nat) (a1:Value) (w:World) (R:Value→World→Prop):evF Tryz.prog Tryz.f91 An91 [.slice a0 a0n a0c,a1] w R=V91 a0 a0n a0c a1 w R:=by kernel_rfl
theorem V91_calls (a0:Option Addr) (a0n:Nat) (a0c:Nat) (a1:Value) (w:World) (R:Value→World→Prop) (h:V91 a0 a0n a0c a1 w R):Calls Tryz.prog 91 #[.slice a0 a0n a0c,a1] w fun e w'=>∃v,e=.returned v∧R v w':=
 calls_of_ev (args:=[.slice a0 a0n a0c,a1]) Tryz.func91 (Nat.le_of_ble_eq_true (by kernel_rfl)) (by rw [V91_eq]; exact h)
theorem ok91:fnOk Tryz.prog 91=true:=by kernel_rfl
def V133 (a0:Option Addr) (a0n:Nat) (a0c:Nat) (a1:Int) (a2:Int) (a3:Int) (a4:Value) (w:World) (R:Value→World→Prop):Prop:=
 lp (σ:=Int×Int×Int×Bool×Bool×Unit) (fun s9 w1 k8=>match s9 with
  | (v3,v4,v5,v6,v7,_)=>
  pif (decide ((IntKind.wrap .i64 (v4 - v3))≤12)) (
   cl Tryz.prog 152 [.slice a0 a0n a0c,.int .i64 v3,.int .i64 v4,a4] w1 fun e13 w2=>e13=Ending.returned (.tuple #[])∧
   R (.tuple #[]) w2) (
   pif (v5==0) (
    cl Tryz.prog 153 [.slice a0 a0n a0c,.int .i64 v3,.int .i64 v4,a4] w1 fun e16 w3=>e16=Ending.returned (.tuple #[])∧
    R (.tuple #[]) w3) (
    jn (σ:=Int×Unit) (fun k18=>
     pif (!v6) (
      cl Tryz.prog 154 [.slice a0 a0n a0c,.int .i64 v3,.int .i64 v4,a4] w1 fun e22 w5=>e22=Ending.returned (.tuple #[])∧
      k18 ((IntKind.wrap .i64 (v5 - 1)),()) w5) (
      k18 (v5,()) w1)) fun s19 w4=>match s19 with
    | (v17,_)=>
    cl Tryz.prog 155 [.slice a0 a0n a0c,.int .i64 v3,.int .i64 v4,a4] w4 fun e27 w6=>∃x25:Int,∃x26:Int,e27=Ending.returned (.tuple #[.int .i64 x25,.int .i64 x26])∧
    jn (σ:=Int×Int×Unit) (fun k30=>
     pif (x26==2) (
      cl Tryz.prog 156 [.slice a0 a0n a0c,.int .i64 v3,.int .i64 v4,a4] w6 fun e34 w8=>e34=Ending.returned (.tuple #[])∧
      k30 ((IntKind.wrap .i64 ((IntKind.wrap .i64 (v4 - 1)) - (IntKind.wrap .i64 (x25 - v3)))),1,()) w8) (
      k30 (x25,x26,()) w6)) fun s31 w7=>match s31 with
    | (v28,v29,_)=>
    jn (σ:=Unit) (fun k37=>
     pif (cond (cond v6 v7 false) (v29==1) false) (
      cl Tryz.prog 157 [.slice a0 a0n a0c,.int .i64 v3,.int .i64 v4,a4] w7 fun e42 w10=>∃x41:Bool,e42=Ending.returned (.bool x41)∧
      pif x41 (
       R (.tuple #[]) w10) (
       k37 (()) w10)) (
      k37 (()) w7)) fun s38 w9=>match s38 with
    | (_)=>
    gd (α:=Addr) (decide (v3>0)) (fun k43=>
     ixA a0 a0n (IntKind.wrap .i64 (v3 - 1)) 1 fun p44=>
     k43 p44 (World.drew w9)) ⟨0,0,none⟩ (World.drew w9) fun x45 _=>
    gd (α:=Int) (decide (v3>0)) (fun k46=>
     ldI .i64 (World.drew w9) x45 fun x47=>
     k46 x47 (World.drew w9)) 0 (World.drew w9) fun x48 _=>
    gd (α:=Addr) (decide (v3>0)) (fun k49=>
     ixA a0 a0n v28 1 fun p50=>
     k49 p50 (World.drew w9)) ⟨0,0,none⟩ (World.drew w9) fun x51 _=>
    gd (α:=Int) (decide (v3>0)) (fun k52=>
     ldI .i64 (World.drew w9) x51 fun x53=>
     k52 x53 (World.drew w9)) 0 (World.drew w9) fun x54 _=>
    gd (α:=Int) (decide (v3>0)) (fun k55=>
     clF Tryz.prog (a4) [.int .i64 x48,.int .i64 x54] (World.drew w9) fun e57 w11=>∃x56:Int,e57=Ending.returned (.int .i64 x56)∧
     k55 x56 w11) 0 (World.drew w9) fun x58 w12=>
    pif (cond (decide (v3>0)) (!(decide (x58<0))) false) (
     cl Tryz.prog 158 [.slice a0 a0n a0c,.int .i64 v3,.int .i64 v4,.int .i64 v28,a4] w12 fun e61 w13=>∃x60:Int,e61=Ending.returned (.int .i64 x60)∧
     k8 (x60,v4,v17,v6,v7,()) w13) (
     cl Tryz.prog 159 [.slice a0 a0n a0c,.int .i64 v3,.int .i64 v4,.int .i64 v28,a4] w12 fun e66 w14=>∃x64:Int,∃x65:Bool,e66=Ending.returned (.tuple #[.int .i64 x64,.bool x65])∧
     pif (decide ((IntKind.wrap .i64 (x64 - v3))<(IntKind.wrap .i64 (v4 - x64)))) (
      cl Tryz.prog 133 [.slice a0 a0n a0c,.int .i64 v3,.int .i64 x64,.int .i64 v17,a4] w14 fun e73 w15=>e73=Ending.returned (.tuple #[])∧
      k8 ((IntKind.wrap .i64 (x64+1)),v4,v17,(decide ((IntKind.wrap .i64 (x64 - v3))≥(IntKind.wrap .i64 (Int.tdiv (IntKind.wrap .i64 (v4 - v3)) 8)))),x65,()) w15) (
      cl Tryz.prog 133 [.slice a0 a0n a0c,.int .i64 (IntKind.wrap .i64 (x64+1)),.int .i64 v4,.int .i64 v17,a4] w14 fun e77 w16=>e77=Ending.returned (.tuple #[])∧
      k8 (v3,x64,v17,(decide ((IntKind.wrap .i64 (v4 - x64))≥(IntKind.wrap .i64 (Int.tdiv (IntKind.wrap .i64 (v4 - v3)) 8)))),x65,()) w16))))) (a1,a2,a3,true,true,()) w
def An133:An:=.seq (.leaf) (.seq (.leaf) (.blk (.loop [(1,.one (.int .i64)),(2,.one (.int .i64)),(3,.one (.int .i64)),(10,.one (.bool)),(11,.one (.bool))] (.blk (.seq (.leaf) (.seq (.seq (.leaf) (.cond (.seq (.leaf) (.leaf)) (.leaf))) (.seq (.seq (.leaf) (.cond (.seq (.leaf) (.leaf)) (.leaf))) (.seq (.join [(3,.one (.int .i64))] (.seq (.leaf) (.cond (.seq (.leaf) (.leaf)) (.leaf)))) (.seq (.leaf) (.seq (.join [(13,.one (.int .i64)),(14,.one (.int .i64))] (.seq (.leaf) (.cond (.seq (.leaf) (.seq (.leaf) (.leaf))) (.leaf)))) (.seq (.join [] (.seq (.leaf) (.cond (.seq (.leaf) (.cond (.leaf) (.leaf))) (.leaf)))) (.seq (.seq (.draw [0,1,3,7,7,7,39,119,247,7,7,1543,3591,8191,16383,32767,65535]) (.cond (.seq (.leaf) (.seq (.leaf) (.leaf))) (.leaf))) (.seq (.leaf) (.seq (.leaf) (.seq (.leaf) (.seq (.leaf) (.seq (.leaf) (.cond (.seq (.leaf) (.seq (.leaf) (.leaf))) (.seq (.leaf) (.seq (.leaf) (.leaf)))))))))))))))))))))
theorem V133_eq (a0:Option Addr) (a0n:Nat) (a0c:Nat) (a1:Int) (a2:Int) (a3:Int) (a4:Value) (w:World) (R:Value→World→Prop):evF Tryz.prog Tryz.f133 An133 [.slice a0 a0n a0c,.int .i64 a1,.int .i64 a2,.int .i64 a3,a4] w R=V133 a0 a0n a0c a1 a2 a3 a4 w R:=by kernel_rfl
theorem V133_calls (a0:Option Addr) (a0n:Nat) (a0c:Nat) (a1:Int) (a2:Int) (a3:Int) (a4:Value) (w:World) (R:Value→World→Prop) (h:V133 a0 a0n a0c a1 a2 a3 a4 w R):Calls Tryz.prog 133 #[.slice a0 a0n a0c,.int .i64 a1,.int .i64 a2,.int .i64 a3,a4] w fun e w'=>∃v,e=.returned v∧R v w':=
 calls_of_ev (args:=[.slice a0 a0n a0c,.int .i64 a1,.int .i64 a2,.int .i64 a3,a4]) Tryz.func133 (Nat.le_of_ble_eq_true (by kernel_rfl)) (by rw [V133_eq]; exact h)
theorem ok133:fnOk Tryz.prog 133=true:=by kernel_rfl
def V134 (a0:Int) (w:World) (R:Value→World→Prop):Prop:=
 pif false (
  cl Tryz.prog 160 [.int .u32 (IntKind.wrap .u32 a0)] w fun e4 w1=>∃x3:Int,e4=Ending.returned (.int .i64 x3)∧
  R (.int .i64 x3) w1) (
  cl Tryz.prog 161 [.int .u64 a0] w fun e7 w2=>∃x6:Int,e7=Ending.returned (.int .i64 x6)∧
  R (.int .i64 x6) w2)
def An134:An:=.seq (.leaf) (.seq (.cond (.seq (.leaf) (.leaf)) (.leaf)) (.seq (.leaf) (.leaf)))
theorem V134_eq (a0:Int) (w:World) (R:Value→World→Prop):evF Tryz.prog Tryz.f134 An134 [.int .u64 a0] w R=V134 a0 w R:=by kernel_rfl
theorem V134_calls (a0:Int) (w:World) (R:Value→World→Prop) (h:V134 a0 w R):Calls Tryz.prog 134 #[.int .u64 a0] w fun e w'=>∃v,e=.returned v∧R v w':=
 calls_of_ev (args:=[.int .u64 a0]) Tryz.func134 (Nat.le_of_ble_eq_true (by kernel_rfl)) (by rw [V134_eq]; exact h)
theorem ok134:fnOk Tryz.prog 134=true:=by kernel_rfl
def V161 (a0:Int) (w:World) (R:Value→World→Prop):Prop:=
 jn (σ:=Int×Int×Unit) (fun k4=>
  pif (decide (a0≥4294967296)) (
   k4 ((Int.fdiv a0 (2 ^ (min (Int.toNat 32) (IntKind.bits .u64)))),32,()) w) (
   k4 (a0,0,()) w)) fun s5 w1=>match s5 with
 | (v2,v3,_)=>
 jn (σ:=Int×Int×Unit) (fun k11=>
  pif (decide (v2≥65536)) (
   k11 ((Int.fdiv v2 (2 ^ (min (Int.toNat 16) (IntKind.bits .u64)))),(IntKind.wrap .i64 (v3+16)),()) w1) (
   k11 (v2,v3,()) w1)) fun s12 w2=>match s12 with
 | (v9,v10,_)=>
 jn (σ:=Int×Int×Unit) (fun k18=>
  pif (decide (v9≥256)) (
   k18 ((Int.fdiv v9 (2 ^ (min (Int.toNat 8) (IntKind.bits .u64)))),(IntKind.wrap .i64 (v10+8)),()) w2) (
   k18 (v9,v10,()) w2)) fun s19 w3=>match s19 with
 | (v16,v17,_)=>
 (0:Int)≤(IntKind.wrap .u8 v16)∧(IntKind.wrap .u8 v16)<((⟨#[0,1,2,2,3,3,3,3,4,4,4,4,4,4,4,4,5,5,5,5,5,5,5,5,5,5,5,5,5,5,5,5,6,6,6,6,6,6,6,6,6,6,6,6,6,6,6,6,6,6,6,6,6,6,6,6,6,6,6,6,6,6,6,6,7,7,7,7,7,7,7,7,7,7,7,7,7,7,7,7,7,7,7,7,7,7,7,7,7,7,7,7,7,7,7,7,7,7,7,7,7,7,7,7,7,7,7,7,7,7,7,7,7,7,7,7,7,7,7,7,7,7,7,7,7,7,7,7,8,8,8,8,8,8,8,8,8,8,8,8,8,8,8,8,8,8,8,8,8,8,8,8,8,8,8,8,8,8,8,8,8,8,8,8,8,8,8,8,8,8,8,8,8,8,8,8,8,8,8,8,8,8,8,8,8,8,8,8,8,8,8,8,8,8,8,8,8,8,8,8,8,8,8,8,8,8,8,8,8,8,8,8,8,8,8,8,8,8,8,8,8,8,8,8,8,8,8,8,8,8,8,8,8,8,8,8,8,8,8,8,8,8,8,8,8,8,8,8,8,8,8,8,8,8,8,8]⟩:ByteArray).size:Int)∧
 R (.int .i64 (IntKind.wrap .i64 (v17+(IntKind.wrap .i64 (byteAt (⟨#[0,1,2,2,3,3,3,3,4,4,4,4,4,4,4,4,5,5,5,5,5,5,5,5,5,5,5,5,5,5,5,5,6,6,6,6,6,6,6,6,6,6,6,6,6,6,6,6,6,6,6,6,6,6,6,6,6,6,6,6,6,6,6,6,7,7,7,7,7,7,7,7,7,7,7,7,7,7,7,7,7,7,7,7,7,7,7,7,7,7,7,7,7,7,7,7,7,7,7,7,7,7,7,7,7,7,7,7,7,7,7,7,7,7,7,7,7,7,7,7,7,7,7,7,7,7,7,7,8,8,8,8,8,8,8,8,8,8,8,8,8,8,8,8,8,8,8,8,8,8,8,8,8,8,8,8,8,8,8,8,8,8,8,8,8,8,8,8,8,8,8,8,8,8,8,8,8,8,8,8,8,8,8,8,8,8,8,8,8,8,8,8,8,8,8,8,8,8,8,8,8,8,8,8,8,8,8,8,8,8,8,8,8,8,8,8,8,8,8,8,8,8,8,8,8,8,8,8,8,8,8,8,8,8,8,8,8,8,8,8,8,8,8,8,8,8,8,8,8,8,8,8,8,8,8,8]⟩:ByteArray) (IntKind.wrap .u8 v16)))))) w3
def An161:An:=.seq (.leaf) (.seq (.join [(0,.one (.int .u64)),(2,.one (.int .i64))] (.seq (.leaf) (.cond (.seq (.leaf) (.leaf)) (.leaf)))) (.seq (.join [(0,.one (.int .u64)),(2,.one (.int .i64))] (.seq (.leaf) (.cond (.seq (.leaf) (.leaf)) (.leaf)))) (.seq (.join [(0,.one (.int .u64)),(2,.one (.int .i64))] (.seq (.leaf) (.cond (.seq (.leaf) (.leaf)) (.leaf)))) (.seq (.leaf) (.leaf)))))
theorem V161_eq (a0:Int) (w:World) (R:Value→World→Prop):evF Tryz.prog Tryz.f161 An161 [.int .u64 a0] w R=V161 a0 w R:=by kernel_rfl
theorem V161_calls (a0:Int) (w:World) (R:Value→World→Prop) (h:V161 a0 w R):Calls Tryz.prog 161 #[.int .u64 a0] w fun e w'=>∃v,e=.returned v∧R v w':=
 calls_of_ev (args:=[.int .u64 a0]) Tryz.func161 (Nat.le_of_ble_eq_true (by kernel_rfl)) (by rw [V161_eq]; exact h)
theorem ok161:fnOk Tryz.prog 161=true:=by kernel_rfl
def V152 (a0:Option Addr) (a0n:Nat) (a0c:Nat) (a1:Int) (a2:Int) (a3:Value) (w:World) (R:Value→World→Prop):Prop:=
 lp (σ:=Int×Unit) (fun s4 w1 k3=>match s4 with
  | (v2,_)=>
  pif (decide (v2<a2)) (
   lp (σ:=Int×Unit) (fun s9 w2 k8=>match s9 with
    | (v7,_)=>
    gd (α:=Addr) (decide (v7>a1)) (fun k10=>
     ixA a0 a0n v7 1 fun p11=>
     k10 p11 (World.drew w2)) ⟨0,0,none⟩ (World.drew w2) fun x12 _=>
    gd (α:=Int) (decide (v7>a1)) (fun k13=>
     ldI .i64 (World.drew w2) x12 fun x14=>
     k13 x14 (World.drew w2)) 0 (World.drew w2) fun x15 _=>
    gd (α:=Addr) (decide (v7>a1)) (fun k16=>
     ixA a0 a0n (IntKind.wrap .i64 (v7 - 1)) 1 fun p17=>
     k16 p17 (World.drew w2)) ⟨0,0,none⟩ (World.drew w2) fun x18 _=>
    gd (α:=Int) (decide (v7>a1)) (fun k19=>
     ldI .i64 (World.drew w2) x18 fun x20=>
     k19 x20 (World.drew w2)) 0 (World.drew w2) fun x21 _=>
    gd (α:=Int) (decide (v7>a1)) (fun k22=>
     clF Tryz.prog (a3) [.int .i64 x15,.int .i64 x21] (World.drew w2) fun e24 w3=>∃x23:Int,e24=Ending.returned (.int .i64 x23)∧
     k22 x23 w3) 0 (World.drew w2) fun x25 w4=>
    pif (cond (decide (v7>a1)) (decide (x25<0)) false) (
     ixA a0 a0n (IntKind.wrap .i64 (v7 - 1)) 1 fun p26=>
     ldI .i64 (World.drew w4) p26 fun x27=>
     ixA a0 a0n v7 1 fun p28=>
     ldI .i64 (World.drew w4) p28 fun x29=>
     ixA a0 a0n v7 1 fun p30=>
     st (World.drew w4) (p30.add 0) (.int .i64 x27) fun w5=>
     ixA a0 a0n (IntKind.wrap .i64 (v7 - 1)) 1 fun p31=>
     st w5 (p31.add 0) (.int .i64 x29) fun w6=>
     k8 ((IntKind.wrap .i64 (v7 - 1)),()) w6) (
     k3 ((IntKind.wrap .i64 (v2+1)),()) w4)) (v2,()) w1) (
   R (.tuple #[]) w1)) ((IntKind.wrap .i64 (a1+1)),()) w
def An152:An:=.seq (.leaf) (.blk (.loop [(8,.one (.int .i64))] (.seq (.seq (.leaf) (.cond (.leaf) (.leaf))) (.seq (.blk (.seq (.leaf) (.blk (.loop [(9,.one (.int .i64))] (.seq (.seq (.draw [0,0,3,7,15,15,15,111,239,15,15,1039,3599,7695,16383,32767,65535]) (.cond (.leaf) (.leaf))) (.seq (.blk (.draw [0,0,0,0,8,0,0,64,224,480,0,0,3072,7168,16355,32739,65535,131071])) (.leaf))))))) (.leaf)))))
theorem V152_eq (a0:Option Addr) (a0n:Nat) (a0c:Nat) (a1:Int) (a2:Int) (a3:Value) (w:World) (R:Value→World→Prop):evF Tryz.prog Tryz.f152 An152 [.slice a0 a0n a0c,.int .i64 a1,.int .i64 a2,a3] w R=V152 a0 a0n a0c a1 a2 a3 w R:=by kernel_rfl
theorem V152_calls (a0:Option Addr) (a0n:Nat) (a0c:Nat) (a1:Int) (a2:Int) (a3:Value) (w:World) (R:Value→World→Prop) (h:V152 a0 a0n a0c a1 a2 a3 w R):Calls Tryz.prog 152 #[.slice a0 a0n a0c,.int .i64 a1,.int .i64 a2,a3] w fun e w'=>∃v,e=.returned v∧R v w':=
 calls_of_ev (args:=[.slice a0 a0n a0c,.int .i64 a1,.int .i64 a2,a3]) Tryz.func152 (Nat.le_of_ble_eq_true (by kernel_rfl)) (by rw [V152_eq]; exact h)
theorem ok152:fnOk Tryz.prog 152=true:=by kernel_rfl
def V153 (a0:Option Addr) (a0n:Nat) (a0c:Nat) (a1:Int) (a2:Int) (a3:Value) (w:World) (R:Value→World→Prop):Prop:=
 lp (σ:=Int×Unit) (fun s7 w1 k6=>match s7 with
  | (v5,_)=>
  pif (decide (v5≥0)) (
   cl Tryz.prog 177 [.slice a0 a0n a0c,.int .i64 v5,.int .i64 (IntKind.wrap .i64 (a2 - a1)),.int .i64 a1,a3] w1 fun e10 w2=>e10=Ending.returned (.tuple #[])∧
   k6 ((IntKind.wrap .i64 (v5 - 1)),()) w2) (
   lp (σ:=Int×Unit) (fun s15 w3 k14=>match s15 with
    | (v13,_)=>
    pif (decide (v13≥0)) (
     ixA a0 a0n (IntKind.wrap .i64 (a1+v13)) 1 fun p17=>
     ldI .i64 (World.drew w3) p17 fun x18=>
     ixA a0 a0n a1 1 fun p19=>
     ldI .i64 (World.drew w3) p19 fun x20=>
     ixA a0 a0n a1 1 fun p21=>
     st (World.drew w3) (p21.add 0) (.int .i64 x18) fun w4=>
     ixA a0 a0n (IntKind.wrap .i64 (a1+v13)) 1 fun p22=>
     st w4 (p22.add 0) (.int .i64 x20) fun w5=>
     cl Tryz.prog 177 [.slice a0 a0n a0c,.int .i64 0,.int .i64 v13,.int .i64 a1,a3] w5 fun e24 w6=>e24=Ending.returned (.tuple #[])∧
     k14 ((IntKind.wrap .i64 (v13 - 1)),()) w6) (
     R (.tuple #[]) w3)) ((IntKind.wrap .i64 ((IntKind.wrap .i64 (a2 - a1)) - 1)),()) w1)) ((IntKind.wrap .i64 (Int.tdiv (IntKind.wrap .i64 ((IntKind.wrap .i64 (a2 - a1)) - 1)) 2)),()) w
def An153:An:=.seq (.leaf) (.seq (.leaf) (.seq (.leaf) (.seq (.seq (.leaf) (.blk (.loop [(11,.one (.int .i64))] (.seq (.seq (.leaf) (.cond (.leaf) (.leaf))) (.seq (.blk (.leaf)) (.leaf)))))) (.seq (.leaf) (.blk (.loop [(12,.one (.int .i64))] (.seq (.seq (.leaf) (.cond (.leaf) (.leaf))) (.seq (.blk (.seq (.draw [0,0,0,0,0,24,0,0,0,384,960,1984,0,0,12288,28672,65475,131011,262143,524287]) (.leaf))) (.leaf)))))))))
theorem V153_eq (a0:Option Addr) (a0n:Nat) (a0c:Nat) (a1:Int) (a2:Int) (a3:Value) (w:World) (R:Value→World→Prop):evF Tryz.prog Tryz.f153 An153 [.slice a0 a0n a0c,.int .i64 a1,.int .i64 a2,a3] w R=V153 a0 a0n a0c a1 a2 a3 w R:=by kernel_rfl
theorem V153_calls (a0:Option Addr) (a0n:Nat) (a0c:Nat) (a1:Int) (a2:Int) (a3:Value) (w:World) (R:Value→World→Prop) (h:V153 a0 a0n a0c a1 a2 a3 w R):Calls Tryz.prog 153 #[.slice a0 a0n a0c,.int .i64 a1,.int .i64 a2,a3] w fun e w'=>∃v,e=.returned v∧R v w':=
 calls_of_ev (args:=[.slice a0 a0n a0c,.int .i64 a1,.int .i64 a2,a3]) Tryz.func153 (Nat.le_of_ble_eq_true (by kernel_rfl)) (by rw [V153_eq]; exact h)
theorem ok153:fnOk Tryz.prog 153=true:=by kernel_rfl
def V154 (a0:Option Addr) (a0n:Nat) (a0c:Nat) (a1:Int) (a2:Int) (a3:Value) (w:World) (R:Value→World→Prop):Prop:=
 pif (decide ((IntKind.wrap .i64 (a2 - a1))≥8)) (
  alc w [.int .u64 0] 224 fun b4 w1=>
  st w1 ((⟨b4,0,none⟩:Addr).add 0) (.int .u64 (IntKind.wrap .u64 (IntKind.wrap .i64 (a2 - a1)))) fun w2=>
  cl Tryz.prog 178 [.int .i64 (IntKind.wrap .i64 (a2 - a1))] w2 fun e7 w3=>∃x6:Int,e7=Ending.returned (.int .u64 x6)∧
  lp (σ:=Int×Unit) (fun s11 w4 k10=>match s11 with
   | (v9,_)=>
   pif (decide (v9≤(IntKind.wrap .i64 ((IntKind.wrap .i64 (a1+(IntKind.wrap .i64 ((IntKind.wrap .i64 (Int.tdiv (IntKind.wrap .i64 (a2 - a1)) 4))*2))))+1)))) (
    cl Tryz.prog 179 [.pointer (some (⟨b4,0,none⟩:Addr))] w4 fun e15 w5=>∃x14:Int,e15=Ending.returned (.int .u64 x14)∧
    jn (σ:=Int×Unit) (fun k17=>
     pif (decide ((IntKind.wrap .i64 (bits .and .u64 x14 (IntKind.wrap .u64 (x6 - 1))))≥(IntKind.wrap .i64 (a2 - a1)))) (
      k17 ((IntKind.wrap .i64 ((IntKind.wrap .i64 (bits .and .u64 x14 (IntKind.wrap .u64 (x6 - 1)))) - (IntKind.wrap .i64 (a2 - a1)))),()) w5) (
      k17 ((IntKind.wrap .i64 (bits .and .u64 x14 (IntKind.wrap .u64 (x6 - 1)))),()) w5)) fun s18 w6=>match s18 with
    | (v16,_)=>
    ixA a0 a0n (IntKind.wrap .i64 (a1+v16)) 1 fun p21=>
    ldI .i64 (World.drew w6) p21 fun x22=>
    ixA a0 a0n v9 1 fun p23=>
    ldI .i64 (World.drew w6) p23 fun x24=>
    ixA a0 a0n v9 1 fun p25=>
    st (World.drew w6) (p25.add 0) (.int .i64 x22) fun w7=>
    ixA a0 a0n (IntKind.wrap .i64 (a1+v16)) 1 fun p26=>
    st w7 (p26.add 0) (.int .i64 x24) fun w8=>
    k10 ((IntKind.wrap .i64 (v9+1)),()) w8) (
    R (.tuple #[]) w4)) ((IntKind.wrap .i64 ((IntKind.wrap .i64 (a1+(IntKind.wrap .i64 ((IntKind.wrap .i64 (Int.tdiv (IntKind.wrap .i64 (a2 - a1)) 4))*2)))) - 1)),()) w3) (
  R (.tuple #[]) w)
def An154:An:=.seq (.leaf) (.seq (.leaf) (.cond (.seq (.leaf) (.seq (.leaf) (.seq (.leaf) (.blk (.loop [(11,.one (.int .i64))] (.seq (.seq (.leaf) (.cond (.leaf) (.leaf))) (.seq (.blk (.seq (.leaf) (.seq (.join [(12,.one (.int .i64))] (.seq (.leaf) (.cond (.leaf) (.leaf)))) (.draw [0,0,0,0,0,24,0,0,0,384,960,1984,0,0,12288,28672,65475,131011,262143,524287])))) (.leaf)))))))) (.leaf)))
theorem V154_eq (a0:Option Addr) (a0n:Nat) (a0c:Nat) (a1:Int) (a2:Int) (a3:Value) (w:World) (R:Value→World→Prop):evF Tryz.prog Tryz.f154 An154 [.slice a0 a0n a0c,.int .i64 a1,.int .i64 a2,a3] w R=V154 a0 a0n a0c a1 a2 a3 w R:=by kernel_rfl
theorem V154_calls (a0:Option Addr) (a0n:Nat) (a0c:Nat) (a1:Int) (a2:Int) (a3:Value) (w:World) (R:Value→World→Prop) (h:V154 a0 a0n a0c a1 a2 a3 w R):Calls Tryz.prog 154 #[.slice a0 a0n a0c,.int .i64 a1,.int .i64 a2,a3] w fun e w'=>∃v,e=.returned v∧R v w':=
 calls_of_ev (args:=[.slice a0 a0n a0c,.int .i64 a1,.int .i64 a2,a3]) Tryz.func154 (Nat.le_of_ble_eq_true (by kernel_rfl)) (by rw [V154_eq]; exact h)
theorem ok154:fnOk Tryz.prog 154=true:=by kernel_rfl
def V155 (a0:Option Addr) (a0n:Nat) (a0c:Nat) (a1:Int) (a2:Int) (a3:Value) (w:World) (R:Value→World→Prop):Prop:=
 alc w [.int .i64 0] 3 fun b4 w1=>
 jn (σ:=Int×Unit) (fun k9=>
  pif (decide ((IntKind.wrap .i64 (a2 - a1))≥8)) (
   jn (σ:=Int×Int×Int×Unit) (fun k15=>
    pif (decide ((IntKind.wrap .i64 (a2 - a1))≥50)) (
     cl Tryz.prog 180 [.slice a0 a0n a0c,.int .i64 (IntKind.wrap .i64 (a1+(IntKind.wrap .i64 ((IntKind.wrap .i64 (Int.tdiv (IntKind.wrap .i64 (a2 - a1)) 4))*1)))),.pointer (some (⟨b4,0,none⟩:Addr)),a3] w1 fun e20 w4=>∃x19:Int,e20=Ending.returned (.int .i64 x19)∧
     cl Tryz.prog 180 [.slice a0 a0n a0c,.int .i64 (IntKind.wrap .i64 (a1+(IntKind.wrap .i64 ((IntKind.wrap .i64 (Int.tdiv (IntKind.wrap .i64 (a2 - a1)) 4))*2)))),.pointer (some (⟨b4,0,none⟩:Addr)),a3] w4 fun e23 w5=>∃x22:Int,e23=Ending.returned (.int .i64 x22)∧
     cl Tryz.prog 180 [.slice a0 a0n a0c,.int .i64 (IntKind.wrap .i64 (a1+(IntKind.wrap .i64 ((IntKind.wrap .i64 (Int.tdiv (IntKind.wrap .i64 (a2 - a1)) 4))*3)))),.pointer (some (⟨b4,0,none⟩:Addr)),a3] w5 fun e26 w6=>∃x25:Int,e26=Ending.returned (.int .i64 x25)∧
     k15 (x19,x22,x25,()) w6) (
     k15 ((IntKind.wrap .i64 (a1+(IntKind.wrap .i64 ((IntKind.wrap .i64 (Int.tdiv (IntKind.wrap .i64 (a2 - a1)) 4))*1)))),(IntKind.wrap .i64 (a1+(IntKind.wrap .i64 ((IntKind.wrap .i64 (Int.tdiv (IntKind.wrap .i64 (a2 - a1)) 4))*2)))),(IntKind.wrap .i64 (a1+(IntKind.wrap .i64 ((IntKind.wrap .i64 (Int.tdiv (IntKind.wrap .i64 (a2 - a1)) 4))*3)))),()) w1)) fun s16 w3=>match s16 with
   | (v12,v13,v14,_)=>
   cl Tryz.prog 181 [.slice a0 a0n a0c,.int .i64 v12,.int .i64 v13,.int .i64 v14,.pointer (some (⟨b4,0,none⟩:Addr)),a3] w3 fun e29 w7=>∃x28:Int,e29=Ending.returned (.int .i64 x28)∧
   k9 (x28,()) w7) (
   k9 ((IntKind.wrap .i64 (a1+(IntKind.wrap .i64 ((IntKind.wrap .i64 (Int.tdiv (IntKind.wrap .i64 (a2 - a1)) 4))*2)))),()) w1)) fun s10 w2=>match s10 with
 | (v8,_)=>
 ldI .i64 w2 (⟨b4,0,none⟩:Addr) fun x31=>
 pif (x31==0) (
  R (.tuple #[.int .i64 v8,.int .i64 1]) w2) (
  pif (x31==12) (
   R (.tuple #[.int .i64 v8,.int .i64 2]) w2) (
   R (.tuple #[.int .i64 v8,.int .i64 0]) w2))
def An155:An:=.seq (.leaf) (.seq (.leaf) (.seq (.leaf) (.seq (.leaf) (.seq (.leaf) (.seq (.leaf) (.seq (.join [(13,.one (.int .i64))] (.seq (.leaf) (.cond (.seq (.join [(12,.one (.int .i64)),(13,.one (.int .i64)),(14,.one (.int .i64))] (.seq (.leaf) (.cond (.seq (.leaf) (.seq (.leaf) (.leaf))) (.leaf)))) (.leaf)) (.leaf)))) (.seq (.leaf) (.blk (.seq (.leaf) (.cond (.seq (.leaf) (.leaf)) (.seq (.leaf) (.cond (.seq (.leaf) (.leaf)) (.seq (.leaf) (.leaf))))))))))))))
theorem V155_eq (a0:Option Addr) (a0n:Nat) (a0c:Nat) (a1:Int) (a2:Int) (a3:Value) (w:World) (R:Value→World→Prop):evF Tryz.prog Tryz.f155 An155 [.slice a0 a0n a0c,.int .i64 a1,.int .i64 a2,a3] w R=V155 a0 a0n a0c a1 a2 a3 w R:=by kernel_rfl
theorem V155_calls (a0:Option Addr) (a0n:Nat) (a0c:Nat) (a1:Int) (a2:Int) (a3:Value) (w:World) (R:Value→World→Prop) (h:V155 a0 a0n a0c a1 a2 a3 w R):Calls Tryz.prog 155 #[.slice a0 a0n a0c,.int .i64 a1,.int .i64 a2,a3] w fun e w'=>∃v,e=.returned v∧R v w':=
 calls_of_ev (args:=[.slice a0 a0n a0c,.int .i64 a1,.int .i64 a2,a3]) Tryz.func155 (Nat.le_of_ble_eq_true (by kernel_rfl)) (by rw [V155_eq]; exact h)
theorem ok155:fnOk Tryz.prog 155=true:=by kernel_rfl
def V156 (a0:Option Addr) (a0n:Nat) (a0c:Nat) (a1:Int) (a2:Int) (a3:Value) (w:World) (R:Value→World→Prop):Prop:=
 lp (σ:=Int×Int×Unit) (fun s6 w1 k5=>match s6 with
  | (v3,v4,_)=>
  pif (decide (v3<v4)) (
   ixA a0 a0n v4 1 fun p8=>
   ldI .i64 (World.drew w1) p8 fun x9=>
   ixA a0 a0n v3 1 fun p10=>
   ldI .i64 (World.drew w1) p10 fun x11=>
   ixA a0 a0n v3 1 fun p12=>
   st (World.drew w1) (p12.add 0) (.int .i64 x9) fun w2=>
   ixA a0 a0n v4 1 fun p13=>
   st w2 (p13.add 0) (.int .i64 x11) fun w3=>
   k5 ((IntKind.wrap .i64 (v3+1)),(IntKind.wrap .i64 (v4 - 1)),()) w3) (
   R (.tuple #[]) w1)) (a1,(IntKind.wrap .i64 (a2 - 1)),()) w
def An156:An:=.seq (.leaf) (.seq (.leaf) (.blk (.loop [(8,.one (.int .i64)),(9,.one (.int .i64))] (.seq (.seq (.leaf) (.cond (.leaf) (.leaf))) (.blk (.seq (.draw [0,0,0,0,0,0,48,112,0,0,768,1792,4083,8179,16383,32767]) (.seq (.leaf) (.leaf))))))))
theorem V156_eq (a0:Option Addr) (a0n:Nat) (a0c:Nat) (a1:Int) (a2:Int) (a3:Value) (w:World) (R:Value→World→Prop):evF Tryz.prog Tryz.f156 An156 [.slice a0 a0n a0c,.int .i64 a1,.int .i64 a2,a3] w R=V156 a0 a0n a0c a1 a2 a3 w R:=by kernel_rfl
theorem V156_calls (a0:Option Addr) (a0n:Nat) (a0c:Nat) (a1:Int) (a2:Int) (a3:Value) (w:World) (R:Value→World→Prop) (h:V156 a0 a0n a0c a1 a2 a3 w R):Calls Tryz.prog 156 #[.slice a0 a0n a0c,.int .i64 a1,.int .i64 a2,a3] w fun e w'=>∃v,e=.returned v∧R v w':=
 calls_of_ev (args:=[.slice a0 a0n a0c,.int .i64 a1,.int .i64 a2,a3]) Tryz.func156 (Nat.le_of_ble_eq_true (by kernel_rfl)) (by rw [V156_eq]; exact h)
theorem ok156:fnOk Tryz.prog 156=true:=by kernel_rfl
def V157 (a0:Option Addr) (a0n:Nat) (a0c:Nat) (a1:Int) (a2:Int) (a3:Value) (w:World) (R:Value→World→Prop):Prop:=
 lp (σ:=Int×Int×Unit) (fun s7 w1 k6=>match s7 with
  | (v4,v5,_)=>
  pif (decide (v5<5)) (
   jn (σ:=Int×Unit) (fun k10=>
    lp (σ:=Int×Unit) (fun s14 w3 k13=>match s14 with
     | (v12,_)=>
     gd (α:=Addr) (decide (v12<a2)) (fun k15=>
      ixA a0 a0n v12 1 fun p16=>
      k15 p16 (World.drew w3)) ⟨0,0,none⟩ (World.drew w3) fun x17 _=>
     gd (α:=Int) (decide (v12<a2)) (fun k18=>
      ldI .i64 (World.drew w3) x17 fun x19=>
      k18 x19 (World.drew w3)) 0 (World.drew w3) fun x20 _=>
     gd (α:=Addr) (decide (v12<a2)) (fun k21=>
      ixA a0 a0n (IntKind.wrap .i64 (v12 - 1)) 1 fun p22=>
      k21 p22 (World.drew w3)) ⟨0,0,none⟩ (World.drew w3) fun x23 _=>
     gd (α:=Int) (decide (v12<a2)) (fun k24=>
      ldI .i64 (World.drew w3) x23 fun x25=>
      k24 x25 (World.drew w3)) 0 (World.drew w3) fun x26 _=>
     gd (α:=Int) (decide (v12<a2)) (fun k27=>
      clF Tryz.prog (a3) [.int .i64 x20,.int .i64 x26] (World.drew w3) fun e29 w4=>∃x28:Int,e29=Ending.returned (.int .i64 x28)∧
      k27 x28 w4) 0 (World.drew w3) fun x30 w5=>
     pif (cond (decide (v12<a2)) (!(decide (x30<0))) false) (
      k13 ((IntKind.wrap .i64 (v12+1)),()) w5) (
      pif (v12==a2) (
       R (.bool true) w5) (
       pif (decide ((IntKind.wrap .i64 (a2 - a1))<50)) (
        R (.bool false) w5) (
        ixA a0 a0n (IntKind.wrap .i64 (v12 - 1)) 1 fun p36=>
        ldI .i64 (World.drew w5) p36 fun x37=>
        ixA a0 a0n v12 1 fun p38=>
        ldI .i64 (World.drew w5) p38 fun x39=>
        ixA a0 a0n v12 1 fun p40=>
        st (World.drew w5) (p40.add 0) (.int .i64 x37) fun w6=>
        ixA a0 a0n (IntKind.wrap .i64 (v12 - 1)) 1 fun p41=>
        st w6 (p41.add 0) (.int .i64 x39) fun w7=>
        jn (σ:=Unit) (fun k42=>
         pif (decide ((IntKind.wrap .i64 (v12 - a1))≥2)) (
          lp (σ:=Int×Unit) (fun s48 w9 k47=>match s48 with
           | (v46,_)=>
           pif (decide (v46≥1)) (
            ixA a0 a0n v46 1 fun p50=>
            ldI .i64 (World.drew w9) p50 fun x51=>
            ixA a0 a0n (IntKind.wrap .i64 (v46 - 1)) 1 fun p52=>
            ldI .i64 (World.drew w9) p52 fun x53=>
            clF Tryz.prog (a3) [.int .i64 x51,.int .i64 x53] (World.drew w9) fun e55 w10=>∃x54:Int,e55=Ending.returned (.int .i64 x54)∧
            pif (!(decide (x54<0))) (
             k42 (()) w10) (
             ixA a0 a0n (IntKind.wrap .i64 (v46 - 1)) 1 fun p56=>
             ldI .i64 (World.drew w10) p56 fun x57=>
             ixA a0 a0n v46 1 fun p58=>
             ldI .i64 (World.drew w10) p58 fun x59=>
             ixA a0 a0n v46 1 fun p60=>
             st (World.drew w10) (p60.add 0) (.int .i64 x57) fun w11=>
             ixA a0 a0n (IntKind.wrap .i64 (v46 - 1)) 1 fun p61=>
             st w11 (p61.add 0) (.int .i64 x59) fun w12=>
             k47 ((IntKind.wrap .i64 (v46 - 1)),()) w12)) (
            k42 (()) w9)) ((IntKind.wrap .i64 (v12 - 1)),()) w7) (
          k42 (()) w7)) fun s43 w8=>match s43 with
        | (_)=>
        pif (decide ((IntKind.wrap .i64 (a2 - v12))≥2)) (
         lp (σ:=Int×Unit) (fun s67 w13 k66=>match s67 with
          | (v65,_)=>
          pif (decide (v65<a2)) (
           ixA a0 a0n v65 1 fun p69=>
           ldI .i64 (World.drew w13) p69 fun x70=>
           ixA a0 a0n (IntKind.wrap .i64 (v65 - 1)) 1 fun p71=>
           ldI .i64 (World.drew w13) p71 fun x72=>
           clF Tryz.prog (a3) [.int .i64 x70,.int .i64 x72] (World.drew w13) fun e74 w14=>∃x73:Int,e74=Ending.returned (.int .i64 x73)∧
           pif (!(decide (x73<0))) (
            k10 (v12,()) w14) (
            ixA a0 a0n (IntKind.wrap .i64 (v65 - 1)) 1 fun p75=>
            ldI .i64 (World.drew w14) p75 fun x76=>
            ixA a0 a0n v65 1 fun p77=>
            ldI .i64 (World.drew w14) p77 fun x78=>
            ixA a0 a0n v65 1 fun p79=>
            st (World.drew w14) (p79.add 0) (.int .i64 x76) fun w15=>
            ixA a0 a0n (IntKind.wrap .i64 (v65 - 1)) 1 fun p80=>
            st w15 (p80.add 0) (.int .i64 x78) fun w16=>
            k66 ((IntKind.wrap .i64 (v65+1)),()) w16)) (
           k10 (v12,()) w13)) ((IntKind.wrap .i64 (v12+1)),()) w8) (
         k10 (v12,()) w8))))) (v4,()) w1) fun s11 w2=>match s11 with
   | (v9,_)=>
   k6 (v9,(IntKind.wrap .i64 (v5+1)),()) w2) (
   R (.bool false) w1)) ((IntKind.wrap .i64 (a1+1)),0,()) w
def An157:An:=.seq (.leaf) (.seq (.leaf) (.seq (.seq (.leaf) (.blk (.loop [(9,.one (.int .i64)),(10,.one (.int .i64))] (.seq (.seq (.leaf) (.cond (.leaf) (.leaf))) (.seq (.join [(9,.one (.int .i64))] (.blk (.seq (.blk (.loop [(9,.one (.int .i64))] (.seq (.seq (.draw [0,0,3,7,15,15,15,111,239,15,15,1039,3599,7695,16383,32767,65535,131071]) (.cond (.leaf) (.leaf))) (.blk (.leaf))))) (.seq (.seq (.leaf) (.cond (.seq (.leaf) (.leaf)) (.leaf))) (.seq (.seq (.leaf) (.cond (.seq (.leaf) (.leaf)) (.leaf))) (.seq (.draw [0,0,0,0,8,0,0,64,224,480,0,0,3072,7168,16355,32739,65535,131071]) (.seq (.join [] (.seq (.leaf) (.cond (.seq (.leaf) (.blk (.loop [(11,.one (.int .i64))] (.seq (.seq (.leaf) (.cond (.leaf) (.leaf))) (.seq (.blk (.seq (.seq (.draw [0,0,0,6,14,0,0,64,224,480,1023,2047,4095]) (.cond (.leaf) (.leaf))) (.draw [0,0,0,0,8,0,0,64,224,480,0,0,3072,7168,16355,32739,65535,131071]))) (.leaf)))))) (.leaf)))) (.seq (.leaf) (.cond (.seq (.leaf) (.blk (.loop [(12,.one (.int .i64))] (.seq (.seq (.leaf) (.cond (.leaf) (.leaf))) (.seq (.blk (.seq (.seq (.draw [0,0,0,6,14,0,0,64,224,480,1023,2047,4095]) (.cond (.leaf) (.leaf))) (.draw [0,0,0,0,8,0,0,64,224,480,0,0,3072,7168,16355,32739,65535,131071]))) (.leaf)))))) (.leaf)))))))))) (.leaf)))))) (.seq (.leaf) (.leaf))))
theorem V157_eq (a0:Option Addr) (a0n:Nat) (a0c:Nat) (a1:Int) (a2:Int) (a3:Value) (w:World) (R:Value→World→Prop):evF Tryz.prog Tryz.f157 An157 [.slice a0 a0n a0c,.int .i64 a1,.int .i64 a2,a3] w R=V157 a0 a0n a0c a1 a2 a3 w R:=by kernel_rfl
theorem V157_calls (a0:Option Addr) (a0n:Nat) (a0c:Nat) (a1:Int) (a2:Int) (a3:Value) (w:World) (R:Value→World→Prop) (h:V157 a0 a0n a0c a1 a2 a3 w R):Calls Tryz.prog 157 #[.slice a0 a0n a0c,.int .i64 a1,.int .i64 a2,a3] w fun e w'=>∃v,e=.returned v∧R v w':=
 calls_of_ev (args:=[.slice a0 a0n a0c,.int .i64 a1,.int .i64 a2,a3]) Tryz.func157 (Nat.le_of_ble_eq_true (by kernel_rfl)) (by rw [V157_eq]; exact h)
theorem ok157:fnOk Tryz.prog 157=true:=by kernel_rfl
def V158 (a0:Option Addr) (a0n:Nat) (a0c:Nat) (a1:Int) (a2:Int) (a3:Int) (a4:Value) (w:World) (R:Value→World→Prop):Prop:=
 ixA a0 a0n a3 1 fun p2=>
 ldI .i64 (World.drew w) p2 fun x3=>
 ixA a0 a0n a1 1 fun p4=>
 ldI .i64 (World.drew w) p4 fun x5=>
 ixA a0 a0n a1 1 fun p6=>
 st (World.drew w) (p6.add 0) (.int .i64 x3) fun w1=>
 ixA a0 a0n a3 1 fun p7=>
 st w1 (p7.add 0) (.int .i64 x5) fun w2=>
 lp (σ:=Int×Int×Unit) (fun s12 w3 k11=>match s12 with
  | (v9,v10,_)=>
  lp (σ:=Int×Unit) (fun s15 w4 k14=>match s15 with
   | (v13,_)=>
   gd (α:=Addr) (decide (v13≤v10)) (fun k16=>
    ixA a0 a0n a1 1 fun p17=>
    k16 p17 (World.drew w4)) ⟨0,0,none⟩ (World.drew w4) fun x18 _=>
   gd (α:=Int) (decide (v13≤v10)) (fun k19=>
    ldI .i64 (World.drew w4) x18 fun x20=>
    k19 x20 (World.drew w4)) 0 (World.drew w4) fun x21 _=>
   gd (α:=Addr) (decide (v13≤v10)) (fun k22=>
    ixA a0 a0n v13 1 fun p23=>
    k22 p23 (World.drew w4)) ⟨0,0,none⟩ (World.drew w4) fun x24 _=>
   gd (α:=Int) (decide (v13≤v10)) (fun k25=>
    ldI .i64 (World.drew w4) x24 fun x26=>
    k25 x26 (World.drew w4)) 0 (World.drew w4) fun x27 _=>
   gd (α:=Int) (decide (v13≤v10)) (fun k28=>
    clF Tryz.prog (a4) [.int .i64 x21,.int .i64 x27] (World.drew w4) fun e30 w5=>∃x29:Int,e30=Ending.returned (.int .i64 x29)∧
    k28 x29 w5) 0 (World.drew w4) fun x31 w6=>
   pif (cond (decide (v13≤v10)) (!(decide (x31<0))) false) (
    k14 ((IntKind.wrap .i64 (v13+1)),()) w6) (
    lp (σ:=Int×Unit) (fun s35 w7 k34=>match s35 with
     | (v33,_)=>
     gd (α:=Addr) (decide (v13≤v33)) (fun k36=>
      ixA a0 a0n a1 1 fun p37=>
      k36 p37 (World.drew w7)) ⟨0,0,none⟩ (World.drew w7) fun x38 _=>
     gd (α:=Int) (decide (v13≤v33)) (fun k39=>
      ldI .i64 (World.drew w7) x38 fun x40=>
      k39 x40 (World.drew w7)) 0 (World.drew w7) fun x41 _=>
     gd (α:=Addr) (decide (v13≤v33)) (fun k42=>
      ixA a0 a0n v33 1 fun p43=>
      k42 p43 (World.drew w7)) ⟨0,0,none⟩ (World.drew w7) fun x44 _=>
     gd (α:=Int) (decide (v13≤v33)) (fun k45=>
      ldI .i64 (World.drew w7) x44 fun x46=>
      k45 x46 (World.drew w7)) 0 (World.drew w7) fun x47 _=>
     gd (α:=Int) (decide (v13≤v33)) (fun k48=>
      clF Tryz.prog (a4) [.int .i64 x41,.int .i64 x47] (World.drew w7) fun e50 w8=>∃x49:Int,e50=Ending.returned (.int .i64 x49)∧
      k48 x49 w8) 0 (World.drew w7) fun x51 w9=>
     pif (cond (decide (v13≤v33)) (decide (x51<0)) false) (
      k34 ((IntKind.wrap .i64 (v33 - 1)),()) w9) (
      pif (decide (v13>v33)) (
       R (.int .i64 v13) w9) (
       ixA a0 a0n v33 1 fun p55=>
       ldI .i64 (World.drew w9) p55 fun x56=>
       ixA a0 a0n v13 1 fun p57=>
       ldI .i64 (World.drew w9) p57 fun x58=>
       ixA a0 a0n v13 1 fun p59=>
       st (World.drew w9) (p59.add 0) (.int .i64 x56) fun w10=>
       ixA a0 a0n v33 1 fun p60=>
       st w10 (p60.add 0) (.int .i64 x58) fun w11=>
       k11 ((IntKind.wrap .i64 (v13+1)),(IntKind.wrap .i64 (v33 - 1)),()) w11))) (v10,()) w6)) (v9,()) w3) ((IntKind.wrap .i64 (a1+1)),(IntKind.wrap .i64 (a2 - 1)),()) w2
def An158:An:=.seq (.leaf) (.seq (.draw [0,0,0,0,0,0,48,112,0,0,768,1792,4083,8179,16383,32767]) (.seq (.leaf) (.seq (.blk (.loop [(11,.one (.int .i64)),(12,.one (.int .i64))] (.blk (.seq (.blk (.loop [(11,.one (.int .i64))] (.seq (.seq (.draw [0,0,3,7,15,15,15,111,239,15,15,1551,3599,8191,16383,32767,65535]) (.cond (.leaf) (.leaf))) (.blk (.leaf))))) (.seq (.blk (.loop [(12,.one (.int .i64))] (.seq (.seq (.draw [0,0,3,7,15,15,15,111,239,15,15,1551,3599,8191,16383,32767]) (.cond (.leaf) (.leaf))) (.blk (.leaf))))) (.seq (.seq (.leaf) (.cond (.leaf) (.leaf))) (.seq (.draw [0,0,0,0,0,0,48,112,0,0,768,1792,4083,8179,16383,32767]) (.seq (.leaf) (.leaf))))))))) (.seq (.leaf) (.leaf)))))
theorem V158_eq (a0:Option Addr) (a0n:Nat) (a0c:Nat) (a1:Int) (a2:Int) (a3:Int) (a4:Value) (w:World) (R:Value→World→Prop):evF Tryz.prog Tryz.f158 An158 [.slice a0 a0n a0c,.int .i64 a1,.int .i64 a2,.int .i64 a3,a4] w R=V158 a0 a0n a0c a1 a2 a3 a4 w R:=by kernel_rfl
theorem V158_calls (a0:Option Addr) (a0n:Nat) (a0c:Nat) (a1:Int) (a2:Int) (a3:Int) (a4:Value) (w:World) (R:Value→World→Prop) (h:V158 a0 a0n a0c a1 a2 a3 a4 w R):Calls Tryz.prog 158 #[.slice a0 a0n a0c,.int .i64 a1,.int .i64 a2,.int .i64 a3,a4] w fun e w'=>∃v,e=.returned v∧R v w':=
 calls_of_ev (args:=[.slice a0 a0n a0c,.int .i64 a1,.int .i64 a2,.int .i64 a3,a4]) Tryz.func158 (Nat.le_of_ble_eq_true (by kernel_rfl)) (by rw [V158_eq]; exact h)
theorem ok158:fnOk Tryz.prog 158=true:=by kernel_rfl
def V159 (a0:Option Addr) (a0n:Nat) (a0c:Nat) (a1:Int) (a2:Int) (a3:Int) (a4:Value) (w:World) (R:Value→World→Prop):Prop:=
 ixA a0 a0n a3 1 fun p2=>
 ldI .i64 (World.drew w) p2 fun x3=>
 ixA a0 a0n a1 1 fun p4=>
 ldI .i64 (World.drew w) p4 fun x5=>
 ixA a0 a0n a1 1 fun p6=>
 st (World.drew w) (p6.add 0) (.int .i64 x3) fun w1=>
 ixA a0 a0n a3 1 fun p7=>
 st w1 (p7.add 0) (.int .i64 x5) fun w2=>
 lp (σ:=Int×Unit) (fun s11 w3 k10=>match s11 with
  | (v9,_)=>
  gd (α:=Addr) (decide (v9≤(IntKind.wrap .i64 (a2 - 1)))) (fun k12=>
   ixA a0 a0n v9 1 fun p13=>
   k12 p13 (World.drew w3)) ⟨0,0,none⟩ (World.drew w3) fun x14 _=>
  gd (α:=Int) (decide (v9≤(IntKind.wrap .i64 (a2 - 1)))) (fun k15=>
   ldI .i64 (World.drew w3) x14 fun x16=>
   k15 x16 (World.drew w3)) 0 (World.drew w3) fun x17 _=>
  gd (α:=Addr) (decide (v9≤(IntKind.wrap .i64 (a2 - 1)))) (fun k18=>
   ixA a0 a0n a1 1 fun p19=>
   k18 p19 (World.drew w3)) ⟨0,0,none⟩ (World.drew w3) fun x20 _=>
  gd (α:=Int) (decide (v9≤(IntKind.wrap .i64 (a2 - 1)))) (fun k21=>
   ldI .i64 (World.drew w3) x20 fun x22=>
   k21 x22 (World.drew w3)) 0 (World.drew w3) fun x23 _=>
  gd (α:=Int) (decide (v9≤(IntKind.wrap .i64 (a2 - 1)))) (fun k24=>
   clF Tryz.prog (a4) [.int .i64 x17,.int .i64 x23] (World.drew w3) fun e26 w4=>∃x25:Int,e26=Ending.returned (.int .i64 x25)∧
   k24 x25 w4) 0 (World.drew w3) fun x27 w5=>
  pif (cond (decide (v9≤(IntKind.wrap .i64 (a2 - 1)))) (decide (x27<0)) false) (
   k10 ((IntKind.wrap .i64 (v9+1)),()) w5) (
   lp (σ:=Int×Unit) (fun s31 w6 k30=>match s31 with
    | (v29,_)=>
    gd (α:=Addr) (decide (v9≤v29)) (fun k32=>
     ixA a0 a0n v29 1 fun p33=>
     k32 p33 (World.drew w6)) ⟨0,0,none⟩ (World.drew w6) fun x34 _=>
    gd (α:=Int) (decide (v9≤v29)) (fun k35=>
     ldI .i64 (World.drew w6) x34 fun x36=>
     k35 x36 (World.drew w6)) 0 (World.drew w6) fun x37 _=>
    gd (α:=Addr) (decide (v9≤v29)) (fun k38=>
     ixA a0 a0n a1 1 fun p39=>
     k38 p39 (World.drew w6)) ⟨0,0,none⟩ (World.drew w6) fun x40 _=>
    gd (α:=Int) (decide (v9≤v29)) (fun k41=>
     ldI .i64 (World.drew w6) x40 fun x42=>
     k41 x42 (World.drew w6)) 0 (World.drew w6) fun x43 _=>
    gd (α:=Int) (decide (v9≤v29)) (fun k44=>
     clF Tryz.prog (a4) [.int .i64 x37,.int .i64 x43] (World.drew w6) fun e46 w7=>∃x45:Int,e46=Ending.returned (.int .i64 x45)∧
     k44 x45 w7) 0 (World.drew w6) fun x47 w8=>
    pif (cond (decide (v9≤v29)) (!(decide (x47<0))) false) (
     k30 ((IntKind.wrap .i64 (v29 - 1)),()) w8) (
     pif (decide (v9>v29)) (
      ixA a0 a0n a1 1 fun p50=>
      ldI .i64 (World.drew w8) p50 fun x51=>
      ixA a0 a0n v29 1 fun p52=>
      ldI .i64 (World.drew w8) p52 fun x53=>
      ixA a0 a0n v29 1 fun p54=>
      st (World.drew w8) (p54.add 0) (.int .i64 x51) fun w9=>
      ixA a0 a0n a1 1 fun p55=>
      st w9 (p55.add 0) (.int .i64 x53) fun w10=>
      R (.tuple #[.int .i64 v29,.bool true]) w10) (
      ixA a0 a0n v29 1 fun p57=>
      ldI .i64 (World.drew w8) p57 fun x58=>
      ixA a0 a0n v9 1 fun p59=>
      ldI .i64 (World.drew w8) p59 fun x60=>
      ixA a0 a0n v9 1 fun p61=>
      st (World.drew w8) (p61.add 0) (.int .i64 x58) fun w11=>
      ixA a0 a0n v29 1 fun p62=>
      st w11 (p62.add 0) (.int .i64 x60) fun w12=>
      lp (σ:=Int×Int×Unit) (fun s68 w13 k67=>match s68 with
       | (v65,v66,_)=>
       lp (σ:=Int×Unit) (fun s71 w14 k70=>match s71 with
        | (v69,_)=>
        gd (α:=Addr) (decide (v69≤v66)) (fun k72=>
         ixA a0 a0n v69 1 fun p73=>
         k72 p73 (World.drew w14)) ⟨0,0,none⟩ (World.drew w14) fun x74 _=>
        gd (α:=Int) (decide (v69≤v66)) (fun k75=>
         ldI .i64 (World.drew w14) x74 fun x76=>
         k75 x76 (World.drew w14)) 0 (World.drew w14) fun x77 _=>
        gd (α:=Addr) (decide (v69≤v66)) (fun k78=>
         ixA a0 a0n a1 1 fun p79=>
         k78 p79 (World.drew w14)) ⟨0,0,none⟩ (World.drew w14) fun x80 _=>
        gd (α:=Int) (decide (v69≤v66)) (fun k81=>
         ldI .i64 (World.drew w14) x80 fun x82=>
         k81 x82 (World.drew w14)) 0 (World.drew w14) fun x83 _=>
        gd (α:=Int) (decide (v69≤v66)) (fun k84=>
         clF Tryz.prog (a4) [.int .i64 x77,.int .i64 x83] (World.drew w14) fun e86 w15=>∃x85:Int,e86=Ending.returned (.int .i64 x85)∧
         k84 x85 w15) 0 (World.drew w14) fun x87 w16=>
        pif (cond (decide (v69≤v66)) (decide (x87<0)) false) (
         k70 ((IntKind.wrap .i64 (v69+1)),()) w16) (
         lp (σ:=Int×Unit) (fun s91 w17 k90=>match s91 with
          | (v89,_)=>
          gd (α:=Addr) (decide (v69≤v89)) (fun k92=>
           ixA a0 a0n v89 1 fun p93=>
           k92 p93 (World.drew w17)) ⟨0,0,none⟩ (World.drew w17) fun x94 _=>
          gd (α:=Int) (decide (v69≤v89)) (fun k95=>
           ldI .i64 (World.drew w17) x94 fun x96=>
           k95 x96 (World.drew w17)) 0 (World.drew w17) fun x97 _=>
          gd (α:=Addr) (decide (v69≤v89)) (fun k98=>
           ixA a0 a0n a1 1 fun p99=>
           k98 p99 (World.drew w17)) ⟨0,0,none⟩ (World.drew w17) fun x100 _=>
          gd (α:=Int) (decide (v69≤v89)) (fun k101=>
           ldI .i64 (World.drew w17) x100 fun x102=>
           k101 x102 (World.drew w17)) 0 (World.drew w17) fun x103 _=>
          gd (α:=Int) (decide (v69≤v89)) (fun k104=>
           clF Tryz.prog (a4) [.int .i64 x97,.int .i64 x103] (World.drew w17) fun e106 w18=>∃x105:Int,e106=Ending.returned (.int .i64 x105)∧
           k104 x105 w18) 0 (World.drew w17) fun x107 w19=>
          pif (cond (decide (v69≤v89)) (!(decide (x107<0))) false) (
           k90 ((IntKind.wrap .i64 (v89 - 1)),()) w19) (
           pif (decide (v69>v89)) (
            ixA a0 a0n a1 1 fun p110=>
            ldI .i64 (World.drew w19) p110 fun x111=>
            ixA a0 a0n v89 1 fun p112=>
            ldI .i64 (World.drew w19) p112 fun x113=>
            ixA a0 a0n v89 1 fun p114=>
            st (World.drew w19) (p114.add 0) (.int .i64 x111) fun w20=>
            ixA a0 a0n a1 1 fun p115=>
            st w20 (p115.add 0) (.int .i64 x113) fun w21=>
            R (.tuple #[.int .i64 v89,.bool false]) w21) (
            ixA a0 a0n v89 1 fun p117=>
            ldI .i64 (World.drew w19) p117 fun x118=>
            ixA a0 a0n v69 1 fun p119=>
            ldI .i64 (World.drew w19) p119 fun x120=>
            ixA a0 a0n v69 1 fun p121=>
            st (World.drew w19) (p121.add 0) (.int .i64 x118) fun w22=>
            ixA a0 a0n v89 1 fun p122=>
            st w22 (p122.add 0) (.int .i64 x120) fun w23=>
            k67 ((IntKind.wrap .i64 (v69+1)),(IntKind.wrap .i64 (v89 - 1)),()) w23))) (v66,()) w16)) (v65,()) w13) ((IntKind.wrap .i64 (v9+1)),(IntKind.wrap .i64 (v29 - 1)),()) w12))) ((IntKind.wrap .i64 (a2 - 1)),()) w5)) ((IntKind.wrap .i64 (a1+1)),()) w2
def An159:An:=.seq (.leaf) (.seq (.draw [0,0,0,0,0,0,48,112,0,0,768,1792,4083,8179,16383,32767]) (.seq (.leaf) (.seq (.blk (.loop [(12,.one (.int .i64))] (.seq (.seq (.draw [0,0,3,7,15,15,15,111,239,15,15,1551,3599,8191,16383,32767]) (.cond (.leaf) (.leaf))) (.blk (.leaf))))) (.seq (.blk (.loop [(13,.one (.int .i64))] (.seq (.seq (.draw [0,0,3,7,15,15,15,111,239,15,15,1551,3599,8191,16383,32767,65535]) (.cond (.leaf) (.leaf))) (.blk (.leaf))))) (.seq (.seq (.leaf) (.cond (.seq (.draw [0,0,0,0,0,0,48,112,0,0,768,1792,4083,8179,16383,32767]) (.seq (.leaf) (.leaf))) (.leaf))) (.seq (.draw [0,0,0,0,0,0,48,112,0,0,768,1792,4083,8179,16383,32767]) (.seq (.leaf) (.seq (.leaf) (.seq (.blk (.loop [(12,.one (.int .i64)),(13,.one (.int .i64))] (.blk (.seq (.blk (.loop [(12,.one (.int .i64))] (.seq (.seq (.draw [0,0,3,7,15,15,15,111,239,15,15,1551,3599,8191,16383,32767]) (.cond (.leaf) (.leaf))) (.blk (.leaf))))) (.seq (.blk (.loop [(13,.one (.int .i64))] (.seq (.seq (.draw [0,0,3,7,15,15,15,111,239,15,15,1551,3599,8191,16383,32767,65535]) (.cond (.leaf) (.leaf))) (.blk (.leaf))))) (.seq (.seq (.leaf) (.cond (.leaf) (.leaf))) (.seq (.draw [0,0,0,0,0,0,48,112,0,0,768,1792,4083,8179,16383,32767]) (.seq (.leaf) (.leaf))))))))) (.seq (.draw [0,0,0,0,0,0,48,112,0,0,768,1792,4083,8179,16383,32767]) (.seq (.leaf) (.leaf))))))))))))
theorem V159_eq (a0:Option Addr) (a0n:Nat) (a0c:Nat) (a1:Int) (a2:Int) (a3:Int) (a4:Value) (w:World) (R:Value→World→Prop):evF Tryz.prog Tryz.f159 An159 [.slice a0 a0n a0c,.int .i64 a1,.int .i64 a2,.int .i64 a3,a4] w R=V159 a0 a0n a0c a1 a2 a3 a4 w R:=by kernel_rfl
theorem V159_calls (a0:Option Addr) (a0n:Nat) (a0c:Nat) (a1:Int) (a2:Int) (a3:Int) (a4:Value) (w:World) (R:Value→World→Prop) (h:V159 a0 a0n a0c a1 a2 a3 a4 w R):Calls Tryz.prog 159 #[.slice a0 a0n a0c,.int .i64 a1,.int .i64 a2,.int .i64 a3,a4] w fun e w'=>∃v,e=.returned v∧R v w':=
 calls_of_ev (args:=[.slice a0 a0n a0c,.int .i64 a1,.int .i64 a2,.int .i64 a3,a4]) Tryz.func159 (Nat.le_of_ble_eq_true (by kernel_rfl)) (by rw [V159_eq]; exact h)
theorem ok159:fnOk Tryz.prog 159=true:=by kernel_rfl
def V177 (a0:Option Addr) (a0n:Nat) (a0c:Nat) (a1:Int) (a2:Int) (a3:Int) (a4:Value) (w:World) (R:Value→World→Prop):Prop:=
 lp (σ:=Int×Unit) (fun s4 w1 k3=>match s4 with
  | (v2,_)=>
  pif (decide ((IntKind.wrap .i64 ((IntKind.wrap .i64 (2*v2))+1))≥a2)) (
   R (.tuple #[]) w1) (
   jn (σ:=Int×Unit) (fun k8=>
    gd (α:=Addr) (decide ((IntKind.wrap .i64 ((IntKind.wrap .i64 ((IntKind.wrap .i64 (2*v2))+1))+1))<a2)) (fun k10=>
     ixA a0 a0n (IntKind.wrap .i64 (a3+(IntKind.wrap .i64 ((IntKind.wrap .i64 (2*v2))+1)))) 1 fun p11=>
     k10 p11 (World.drew w1)) ⟨0,0,none⟩ (World.drew w1) fun x12 _=>
    gd (α:=Int) (decide ((IntKind.wrap .i64 ((IntKind.wrap .i64 ((IntKind.wrap .i64 (2*v2))+1))+1))<a2)) (fun k13=>
     ldI .i64 (World.drew w1) x12 fun x14=>
     k13 x14 (World.drew w1)) 0 (World.drew w1) fun x15 _=>
    gd (α:=Addr) (decide ((IntKind.wrap .i64 ((IntKind.wrap .i64 ((IntKind.wrap .i64 (2*v2))+1))+1))<a2)) (fun k16=>
     ixA a0 a0n (IntKind.wrap .i64 ((IntKind.wrap .i64 (a3+(IntKind.wrap .i64 ((IntKind.wrap .i64 (2*v2))+1))))+1)) 1 fun p17=>
     k16 p17 (World.drew w1)) ⟨0,0,none⟩ (World.drew w1) fun x18 _=>
    gd (α:=Int) (decide ((IntKind.wrap .i64 ((IntKind.wrap .i64 ((IntKind.wrap .i64 (2*v2))+1))+1))<a2)) (fun k19=>
     ldI .i64 (World.drew w1) x18 fun x20=>
     k19 x20 (World.drew w1)) 0 (World.drew w1) fun x21 _=>
    gd (α:=Int) (decide ((IntKind.wrap .i64 ((IntKind.wrap .i64 ((IntKind.wrap .i64 (2*v2))+1))+1))<a2)) (fun k22=>
     clF Tryz.prog (a4) [.int .i64 x15,.int .i64 x21] (World.drew w1) fun e24 w3=>∃x23:Int,e24=Ending.returned (.int .i64 x23)∧
     k22 x23 w3) 0 (World.drew w1) fun x25 w4=>
    pif (cond (decide ((IntKind.wrap .i64 ((IntKind.wrap .i64 ((IntKind.wrap .i64 (2*v2))+1))+1))<a2)) (decide (x25<0)) false) (
     k8 ((IntKind.wrap .i64 ((IntKind.wrap .i64 ((IntKind.wrap .i64 (2*v2))+1))+1)),()) w4) (
     k8 ((IntKind.wrap .i64 ((IntKind.wrap .i64 (2*v2))+1)),()) w4)) fun s9 w2=>match s9 with
   | (v7,_)=>
   ixA a0 a0n (IntKind.wrap .i64 (a3+v2)) 1 fun p27=>
   ldI .i64 (World.drew w2) p27 fun x28=>
   ixA a0 a0n (IntKind.wrap .i64 (a3+v7)) 1 fun p29=>
   ldI .i64 (World.drew w2) p29 fun x30=>
   clF Tryz.prog (a4) [.int .i64 x28,.int .i64 x30] (World.drew w2) fun e32 w5=>∃x31:Int,e32=Ending.returned (.int .i64 x31)∧
   pif (!(decide (x31<0))) (
    R (.tuple #[]) w5) (
    ixA a0 a0n (IntKind.wrap .i64 (a3+v7)) 1 fun p33=>
    ldI .i64 (World.drew w5) p33 fun x34=>
    ixA a0 a0n (IntKind.wrap .i64 (a3+v2)) 1 fun p35=>
    ldI .i64 (World.drew w5) p35 fun x36=>
    ixA a0 a0n (IntKind.wrap .i64 (a3+v2)) 1 fun p37=>
    st (World.drew w5) (p37.add 0) (.int .i64 x34) fun w6=>
    ixA a0 a0n (IntKind.wrap .i64 (a3+v7)) 1 fun p38=>
    st w6 (p38.add 0) (.int .i64 x36) fun w7=>
    k3 (v7,()) w7))) (a1,()) w
def An177:An:=.seq (.leaf) (.blk (.loop [(10,.one (.int .i64))] (.blk (.seq (.leaf) (.seq (.seq (.leaf) (.cond (.leaf) (.leaf))) (.seq (.join [(11,.one (.int .i64))] (.seq (.draw [0,1,0,7,15,31,31,31,31,415,991,2015,31,31,31,24607,57375,127007,258079,524287,1048575,2097151]) (.cond (.leaf) (.leaf)))) (.seq (.seq (.draw [0,0,0,0,12,30,62,0,0,0,768,1920,3968,8191,16383,32767]) (.cond (.leaf) (.leaf))) (.seq (.draw [0,0,0,6,0,0,0,96,0,0,0,1536,3840,7936,0,0,0,98304,245760,507904,1048335,2096911,4194303,8388607]) (.leaf)))))))))
theorem V177_eq (a0:Option Addr) (a0n:Nat) (a0c:Nat) (a1:Int) (a2:Int) (a3:Int) (a4:Value) (w:World) (R:Value→World→Prop):evF Tryz.prog Tryz.f177 An177 [.slice a0 a0n a0c,.int .i64 a1,.int .i64 a2,.int .i64 a3,a4] w R=V177 a0 a0n a0c a1 a2 a3 a4 w R:=by kernel_rfl
theorem V177_calls (a0:Option Addr) (a0n:Nat) (a0c:Nat) (a1:Int) (a2:Int) (a3:Int) (a4:Value) (w:World) (R:Value→World→Prop) (h:V177 a0 a0n a0c a1 a2 a3 a4 w R):Calls Tryz.prog 177 #[.slice a0 a0n a0c,.int .i64 a1,.int .i64 a2,.int .i64 a3,a4] w fun e w'=>∃v,e=.returned v∧R v w':=
 calls_of_ev (args:=[.slice a0 a0n a0c,.int .i64 a1,.int .i64 a2,.int .i64 a3,a4]) Tryz.func177 (Nat.le_of_ble_eq_true (by kernel_rfl)) (by rw [V177_eq]; exact h)
theorem ok177:fnOk Tryz.prog 177=true:=by kernel_rfl
def V178 (a0:Int) (w:World) (R:Value→World→Prop):Prop:=
 cl Tryz.prog 134 [.int .u64 (IntKind.wrap .u64 a0)] w fun e4 w1=>∃x3:Int,e4=Ending.returned (.int .i64 x3)∧
 (0:Int)≤x3∧
 R (.int .u64 (IntKind.wrap .u64 (1*2 ^ (min (Int.toNat x3) (IntKind.bits .u64))))) w1
def An178:An:=.seq (.leaf) (.seq (.leaf) (.leaf))
theorem V178_eq (a0:Int) (w:World) (R:Value→World→Prop):evF Tryz.prog Tryz.f178 An178 [.int .i64 a0] w R=V178 a0 w R:=by kernel_rfl
theorem V178_calls (a0:Int) (w:World) (R:Value→World→Prop) (h:V178 a0 w R):Calls Tryz.prog 178 #[.int .i64 a0] w fun e w'=>∃v,e=.returned v∧R v w':=
 calls_of_ev (args:=[.int .i64 a0]) Tryz.func178 (Nat.le_of_ble_eq_true (by kernel_rfl)) (by rw [V178_eq]; exact h)
theorem ok178:fnOk Tryz.prog 178=true:=by kernel_rfl
def V179 (a0:Option Addr) (w:World) (R:Value→World→Prop):Prop:=
 nn a0 fun p2=>
 ldI .u64 (World.drew w) p2 fun x3=>
 nn a0 fun p4=>
 ldI .u64 (World.drew w) p4 fun x5=>
 nn a0 fun p6=>
 st (World.drew w) (p6.add 0) (.int .u64 (bits .xor .u64 x3 (IntKind.wrap .u64 (x5*2 ^ (min (Int.toNat 13) (IntKind.bits .u64)))))) fun w1=>
 nn a0 fun p7=>
 ldI .u64 (World.drew w1) p7 fun x8=>
 nn a0 fun p9=>
 ldI .u64 (World.drew w1) p9 fun x10=>
 nn a0 fun p11=>
 st (World.drew w1) (p11.add 0) (.int .u64 (bits .xor .u64 x8 (Int.fdiv x10 (2 ^ (min (Int.toNat 7) (IntKind.bits .u64)))))) fun w2=>
 nn a0 fun p12=>
 ldI .u64 (World.drew w2) p12 fun x13=>
 nn a0 fun p14=>
 ldI .u64 (World.drew w2) p14 fun x15=>
 nn a0 fun p16=>
 st (World.drew w2) (p16.add 0) (.int .u64 (bits .xor .u64 x13 (IntKind.wrap .u64 (x15*2 ^ (min (Int.toNat 17) (IntKind.bits .u64)))))) fun w3=>
 nn a0 fun p18=>
 ldI .u64 w3 p18 fun x19=>
 R (.int .u64 x19) w3
def An179:An:=.seq (.leaf) (.seq (.draw [0,1,3,0,8,24,56,127,255,511]) (.seq (.draw [0,1,3,0,8,24,56,127,255,511]) (.seq (.draw [0,1,3,0,8,24,56,127,255,511]) (.seq (.leaf) (.leaf)))))
theorem V179_eq (a0:Option Addr) (w:World) (R:Value→World→Prop):evF Tryz.prog Tryz.f179 An179 [.pointer a0] w R=V179 a0 w R:=by kernel_rfl
theorem V179_calls (a0:Option Addr) (w:World) (R:Value→World→Prop) (h:V179 a0 w R):Calls Tryz.prog 179 #[.pointer a0] w fun e w'=>∃v,e=.returned v∧R v w':=
 calls_of_ev (args:=[.pointer a0]) Tryz.func179 (Nat.le_of_ble_eq_true (by kernel_rfl)) (by rw [V179_eq]; exact h)
theorem ok179:fnOk Tryz.prog 179=true:=by kernel_rfl
def V180 (a0:Option Addr) (a0n:Nat) (a0c:Nat) (a1:Int) (a2:Option Addr) (a3:Value) (w:World) (R:Value→World→Prop):Prop:=
 cl Tryz.prog 181 [.slice a0 a0n a0c,.int .i64 (IntKind.wrap .i64 (a1 - 1)),.int .i64 a1,.int .i64 (IntKind.wrap .i64 (a1+1)),.pointer a2,a3] w fun e4 w1=>∃x3:Int,e4=Ending.returned (.int .i64 x3)∧
 R (.int .i64 x3) w1
def An180:An:=.seq (.leaf) (.seq (.leaf) (.leaf))
theorem V180_eq (a0:Option Addr) (a0n:Nat) (a0c:Nat) (a1:Int) (a2:Option Addr) (a3:Value) (w:World) (R:Value→World→Prop):evF Tryz.prog Tryz.f180 An180 [.slice a0 a0n a0c,.int .i64 a1,.pointer a2,a3] w R=V180 a0 a0n a0c a1 a2 a3 w R:=by kernel_rfl
theorem V180_calls (a0:Option Addr) (a0n:Nat) (a0c:Nat) (a1:Int) (a2:Option Addr) (a3:Value) (w:World) (R:Value→World→Prop) (h:V180 a0 a0n a0c a1 a2 a3 w R):Calls Tryz.prog 180 #[.slice a0 a0n a0c,.int .i64 a1,.pointer a2,a3] w fun e w'=>∃v,e=.returned v∧R v w':=
 calls_of_ev (args:=[.slice a0 a0n a0c,.int .i64 a1,.pointer a2,a3]) Tryz.func180 (Nat.le_of_ble_eq_true (by kernel_rfl)) (by rw [V180_eq]; exact h)
theorem ok180:fnOk Tryz.prog 180=true:=by kernel_rfl
def V181 (a0:Option Addr) (a0n:Nat) (a0c:Nat) (a1:Int) (a2:Int) (a3:Int) (a4:Option Addr) (a5:Value) (w:World) (R:Value→World→Prop):Prop:=
 cl Tryz.prog 185 [.slice a0 a0n a0c,.int .i64 a1,.int .i64 a2,.pointer a4,a5] w fun e5 w1=>∃x3:Int,∃x4:Int,e5=Ending.returned (.tuple #[.int .i64 x3,.int .i64 x4])∧
 cl Tryz.prog 185 [.slice a0 a0n a0c,.int .i64 x4,.int .i64 a3,.pointer a4,a5] w1 fun e9 w2=>∃x7:Int,∃x8:Int,e9=Ending.returned (.tuple #[.int .i64 x7,.int .i64 x8])∧
 cl Tryz.prog 185 [.slice a0 a0n a0c,.int .i64 x3,.int .i64 x7,.pointer a4,a5] w2 fun e13 w3=>∃x11:Int,∃x12:Int,e13=Ending.returned (.tuple #[.int .i64 x11,.int .i64 x12])∧
 R (.int .i64 x12) w3
def An181:An:=.seq (.leaf) (.seq (.leaf) (.seq (.leaf) (.seq (.leaf) (.seq (.leaf) (.leaf)))))
theorem V181_eq (a0:Option Addr) (a0n:Nat) (a0c:Nat) (a1:Int) (a2:Int) (a3:Int) (a4:Option Addr) (a5:Value) (w:World) (R:Value→World→Prop):evF Tryz.prog Tryz.f181 An181 [.slice a0 a0n a0c,.int .i64 a1,.int .i64 a2,.int .i64 a3,.pointer a4,a5] w R=V181 a0 a0n a0c a1 a2 a3 a4 a5 w R:=by kernel_rfl
theorem V181_calls (a0:Option Addr) (a0n:Nat) (a0c:Nat) (a1:Int) (a2:Int) (a3:Int) (a4:Option Addr) (a5:Value) (w:World) (R:Value→World→Prop) (h:V181 a0 a0n a0c a1 a2 a3 a4 a5 w R):Calls Tryz.prog 181 #[.slice a0 a0n a0c,.int .i64 a1,.int .i64 a2,.int .i64 a3,.pointer a4,a5] w fun e w'=>∃v,e=.returned v∧R v w':=
 calls_of_ev (args:=[.slice a0 a0n a0c,.int .i64 a1,.int .i64 a2,.int .i64 a3,.pointer a4,a5]) Tryz.func181 (Nat.le_of_ble_eq_true (by kernel_rfl)) (by rw [V181_eq]; exact h)
theorem ok181:fnOk Tryz.prog 181=true:=by kernel_rfl
def V185 (a0:Option Addr) (a0n:Nat) (a0c:Nat) (a1:Int) (a2:Int) (a3:Option Addr) (a4:Value) (w:World) (R:Value→World→Prop):Prop:=
 ixA a0 a0n a2 1 fun p2=>
 ldI .i64 (World.drew w) p2 fun x3=>
 ixA a0 a0n a1 1 fun p4=>
 ldI .i64 (World.drew w) p4 fun x5=>
 clF Tryz.prog (a4) [.int .i64 x3,.int .i64 x5] (World.drew w) fun e7 w1=>∃x6:Int,e7=Ending.returned (.int .i64 x6)∧
 pif (decide (x6<0)) (
  nn a3 fun p9=>
  ldI .i64 w1 p9 fun x10=>
  nn a3 fun p11=>
  st w1 (p11.add 0) (.int .i64 (IntKind.wrap .i64 (x10+1))) fun w2=>
  R (.tuple #[.int .i64 a2,.int .i64 a1]) w2) (
  R (.tuple #[.int .i64 a1,.int .i64 a2]) w1)
def An185:An:=.seq (.leaf) (.seq (.seq (.draw [0,0,0,6,14,0,0,96,224,511,1023]) (.cond (.seq (.leaf) (.seq (.leaf) (.leaf))) (.leaf))) (.seq (.leaf) (.leaf)))
theorem V185_eq (a0:Option Addr) (a0n:Nat) (a0c:Nat) (a1:Int) (a2:Int) (a3:Option Addr) (a4:Value) (w:World) (R:Value→World→Prop):evF Tryz.prog Tryz.f185 An185 [.slice a0 a0n a0c,.int .i64 a1,.int .i64 a2,.pointer a3,a4] w R=V185 a0 a0n a0c a1 a2 a3 a4 w R:=by kernel_rfl
theorem V185_calls (a0:Option Addr) (a0n:Nat) (a0c:Nat) (a1:Int) (a2:Int) (a3:Option Addr) (a4:Value) (w:World) (R:Value→World→Prop) (h:V185 a0 a0n a0c a1 a2 a3 a4 w R):Calls Tryz.prog 185 #[.slice a0 a0n a0c,.int .i64 a1,.int .i64 a2,.pointer a3,a4] w fun e w'=>∃v,e=.returned v∧R v w':=
 calls_of_ev (args:=[.slice a0 a0n a0c,.int .i64 a1,.int .i64 a2,.pointer a3,a4]) Tryz.func185 (Nat.le_of_ble_eq_true (by kernel_rfl)) (by rw [V185_eq]; exact h)
theorem ok185:fnOk Tryz.prog 185=true:=by kernel_rfl
end Go.Proofs.YtmhjehodfggleaaGreat.T

/- slices.SortFunc over ints: the list in memory, swaps, compares; insertion sort; reversal. -/

set_option linter.unusedVariables false
set_option linter.unusedSimpArgs false
set_option maxRecDepth 100000
namespace Go.Proofs.YtmhjehodfggleaaGreat.Sort
open Go Go.Proofs.YtmhjehodfggleaaGreat.Vc Go.Proofs.YtmhjehodfggleaaGreat.T
abbrev J (n:Int):Value:=.int .i64 n
def g (z:List Int) (k:Nat):Int:=z.getD k 0
def swp (z:List Int) (i j:Nat):List Int:=(z.set j (g z i)).set i (g z j)
theorem swp_len (z:List Int) (i j:Nat):(swp z i j).length=z.length:=by simp [swp]
theorem g_some {z:List Int} {k:Nat} (h:k<z.length):z[k]?=some (g z k):=by
 unfold g; rw [List.getD_eq_getElem?_getD,List.getElem?_eq_getElem h]; rfl
theorem g_set {z:List Int} {i k:Nat} {x:Int} (hi:i<z.length):g (z.set i x) k=if k=i then x else g z k:=by
 unfold g
 rw [List.getD_eq_getElem?_getD,List.getElem?_set,List.getD_eq_getElem?_getD]
 by_cases h:k=i
 ·subst h; simp [hi]
 ·rw [if_neg (Ne.symm h),if_neg h]
theorem g_swp {z:List Int} {i j k:Nat} (hi:i<z.length) (hj:j<z.length):g (swp z i j) k=if k=i then g z j else if k=j then g z i else g z k:=by
 unfold swp
 rw [g_set (by simpa using hi),g_set hj]
theorem g_mem {z:List Int} {k:Nat} (h:k<z.length):g z k∈z:=List.mem_of_getElem? (g_some h)
theorem swp_perm {z:List Int} {i j:Nat} (hi:i<z.length) (hj:j<z.length):(swp z i j).Perm z:=by
 have e1:g z i=z[i]:=by unfold g; rw [List.getD_eq_getElem?_getD,List.getElem?_eq_getElem hi]; rfl
 have e2:g z j=z[j]:=by unfold g; rw [List.getD_eq_getElem?_getD,List.getElem?_eq_getElem hj]; rfl
 unfold swp
 rw [e1,e2]
 exact List.set_set_perm hj hi
structure SP (a b:Nat) (z z':List Int):Prop where
 len:z'.length=z.length
 perm:z'.Perm z
 out:∀k,k<a∨b≤k→g z' k=g z k
theorem SP.refl (a b:Nat) (z:List Int):SP a b z z:=⟨rfl,List.Perm.refl _,fun _ _=>rfl⟩
theorem SP.trans {a b:Nat} {z z1 z2:List Int} (h:SP a b z z1) (h':SP a b z1 z2):SP a b z z2:=
 ⟨h'.len.trans h.len,h'.perm.trans h.perm,fun k hk=>(h'.out k hk).trans (h.out k hk)⟩
theorem SP.mono {a b a' b':Nat} {z z1:List Int} (h:SP a b z z1) (ha:a'≤a) (hb:b≤b'):SP a' b' z z1:=
 ⟨h.len,h.perm,fun k hk=>h.out k (by omega)⟩
theorem SP.swap {a b i j:Nat} {z:List Int} (hb:b≤z.length) (hi:a≤i∧i<b) (hj:a≤j∧j<b):SP a b z (swp z i j):=
 ⟨swp_len _ _ _,swp_perm (by omega) (by omega),fun k hk=>by
  rw [g_swp (by omega) (by omega),if_neg (by omega),if_neg (by omega)]⟩
theorem ext_g {x y:List Int} (hl:x.length=y.length) (h:∀k,k<x.length→g x k=g y k):x=y:=by
 apply List.ext_getElem hl
 intro k h1 h2
 have:=h k h1
 unfold g at this
 rw [List.getD_eq_getElem?_getD,List.getD_eq_getElem?_getD,List.getElem?_eq_getElem h1,List.getElem?_eq_getElem h2] at this
 exact this
theorem SP.all {a b:Nat} {z z':List Int} (h:SP a b z z') (hb:b≤z.length) {P:Int→Prop} (hP:∀k,a≤k→k<b→P (g z k)):∀k,a≤k→k<b→P (g z' k):=by
 intro k hk1 hk2
 have hl:=h.len
 have e1:z'.take a=z.take a:=ext_g (by simp; omega) fun i hi=>by
  have hi':i<a:=by simp at hi; omega
  have:=h.out i (Or.inl hi')
  unfold g at this ⊢
  rw [List.getD_eq_getElem?_getD,List.getD_eq_getElem?_getD,List.getElem?_take,List.getElem?_take,if_pos hi',if_pos hi',←List.getD_eq_getElem?_getD,←List.getD_eq_getElem?_getD]
  exact this
 have e2:z'.drop b=z.drop b:=ext_g (by simp; omega) fun i hi=>by
  have:=h.out (b+i) (Or.inr (by omega))
  unfold g at this ⊢
  rw [List.getD_eq_getElem?_getD,List.getD_eq_getElem?_getD,List.getElem?_drop,List.getElem?_drop,←List.getD_eq_getElem?_getD,←List.getD_eq_getElem?_getD]
  exact this
 have part:∀x:List Int,x=x.take a++((x.drop a).take (b - a)++x.drop b):=fun x=>by
  have h1:x.drop b=(x.drop a).drop (b - a):=by rw [List.drop_drop]; congr 1; omega
  rw [h1,List.take_append_drop,List.take_append_drop]
 have hp:=h.perm
 rw [part z',part z,e1,e2] at hp
 have hp:=(List.perm_append_left_iff _).1 hp
 have hp:=(List.perm_append_right_iff _).1 hp
 have hm:g z' k∈(z'.drop a).take (b - a):=by
  have:((z'.drop a).take (b - a))[k - a]?=some (g z' k):=by
   rw [List.getElem?_take,if_pos (by omega),List.getElem?_drop,show a+(k - a)=k by omega]
   exact g_some (by omega)
  exact List.mem_of_getElem? this
 have hm:=hp.mem_iff.1 hm
 obtain ⟨i,hi,he⟩:=List.mem_iff_getElem.1 hm
 have hi':i<b - a:=by simp at hi; omega
 have:=hP (a+i) (by omega) (by omega)
 have e3:g z (a+i)=g z' k:=by
  rw [←he,List.getElem_take,List.getElem_drop]
  unfold g
  rw [List.getD_eq_getElem?_getD,List.getElem?_eq_getElem (by omega)]; rfl
 rw [e3] at this
 exact this
structure Cm (w0:World) (p:Option Addr) (f:Value) (S:Int→Prop) (lt:Int→Int→Bool):Prop where
 call:∀(w:World) (x y:Int) (R:Ending→World→Prop),Keep (ob p) w0 w→S x→S y→(∀c w',(c<0↔lt x y=true)→Keep None w w'→R (.returned (J c)) w')→clF Tryz.prog f [J x,J y] w R
 asym:∀x y,S x→S y→lt x y=true→lt y x=false
 trans:∀x y z,S x→S y→S z→lt y x=false→lt z y=false→lt z x=false
def Sorted (lt:Int→Int→Bool) (a b:Nat) (z:List Int):Prop:=∀i j,a≤i→i<j→j<b→lt (g z j) (g z i)=false
structure Ar (w0:World) (p:Option Addr) (n c:Nat) (S:Int→Prop) (w:World) (z:List Int):Prop where
 own:Own w 3 1 p n c (z.map J)
 kp:Keep (ob p) w0 w
 all:∀x∈z,S x
section
variable {w0 w:World} {p:Option Addr} {n c:Nat} {S:Int→Prop} {lt:Int→Int→Bool} {f:Value} {z:List Int}
theorem Ar.len (h:Ar w0 p n c S w z):z.length=n:=by have:=h.own.len; simpa using this
theorem Ar.drew (h:Ar w0 p n c S w z):Ar w0 p n c S w.drew z:=⟨h.own.drew,h.kp.drew,h.all⟩
theorem Ar.keep0 {w':World} (h:Ar w0 p n c S w z) (hk:Keep None w w'):Ar w0 p n c S w' z:=⟨h.own.keep0 hk,h.kp.then0 hk,h.all⟩
theorem Ar.s (h:Ar w0 p n c S w z) {k:Nat} (hk:k<n):S (g z k):=h.all _ (g_mem (by rw [h.len]; exact hk))
theorem Ar.rd (h:Ar w0 p n c S w z) {i:Nat} (hi:i<n) {K:Int→Prop} (hK:K (g z i)):ixA p n (i:Int) 1 fun a=>ldI .i64 w a K:=by
 have hl:=h.len
 refine h.own.ix (by omega) (by omega) fun b hb=>?_
 rw [Nat.mul_one,Int.toNat_natCast]
 have h':=h.own
 rw [hb] at h'
 exact ldI_of (by rw [h'.cell _ (by omega),List.getElem?_map,g_some (by omega)]; rfl) hK
theorem Ar.wr (h:Ar w0 p n c S w z) {i:Nat} (hi:i<n) {v:Int} {K:World→Prop} (hK:∀w',Own w' 3 1 p n c ((z.set i v).map J)→Keep (ob p) w w'→K w'):ixA p n (i:Int) 1 fun a=>st w (a.add 0) (J v) K:=by
 refine h.own.ix (by omega) (by omega) fun b hb=>?_
 rw [Nat.mul_one,Int.toNat_natCast,add_mk,Nat.add_zero]
 have h':=h.own
 rw [hb] at h'
 refine h'.st (by omega) rfl fun w' hO hk _=>?_
 refine hK w' ?_ (hk.mono fun j _ hj=>⟨_,hb,hj.symm⟩)
 rw [List.map_set,hb]
 exact hO
theorem Ar.swap (h:Ar w0 p n c S w z) {i j:Nat} (hi:i<n) (hj:j<n) {K:World→Prop} (hK:∀w',Ar w0 p n c S w' (swp z i j)→Keep (ob p) w w'→K w') :
  ixA p n (i:Int) 1 fun p26=>ldI .i64 w p26 fun x27=>ixA p n (j:Int) 1 fun p28=>ldI .i64 w p28 fun x29=>ixA p n (j:Int) 1 fun p30=>st w (p30.add 0) (.int .i64 x27) fun w5=>
   ixA p n (i:Int) 1 fun p31=>st w5 (p31.add 0) (.int .i64 x29) fun w6=>K w6:=by
 have hl:=h.len
 refine h.rd hi (h.rd hj (h.wr hj fun w5 hO5 k5=>?_))
 have h5:Ar w0 p n c S w5 (z.set j (g z i)):=⟨hO5,h.kp.trans k5 fun _ _ h=>h,fun x hx=>by
  rcases List.mem_or_eq_of_mem_set hx with hx | hx
  ·exact h.all x hx
  ·rw [hx]; exact h.s hi⟩
 refine h5.wr hi fun w6 hO6 k6=>hK w6 ⟨hO6,h5.kp.trans k6 fun _ _ h=>h,fun x hx=>h.all x ?_⟩ (k5.trans k6 fun _ _ h=>h)
 exact (swp_perm (by omega) (by omega)).mem_iff.1 hx
theorem Ar.cmp (cm:Cm w0 p f S lt) (h:Ar w0 p n c S w z) {i j:Nat} (hi:i<n) (hj:j<n) {K:Int→World→Prop} (hK:∀x w',(x<0↔lt (g z i) (g z j)=true)→Ar w0 p n c S w' z→Keep None w w'→K x w') :
  ixA p n (i:Int) 1 fun p50=>ldI .i64 w p50 fun x51=>ixA p n (j:Int) 1 fun p52=>ldI .i64 w p52 fun x53=>
   clF Tryz.prog f [.int .i64 x51,.int .i64 x53] w fun e55 w10=>∃x54:Int,e55=Ending.returned (.int .i64 x54)∧K x54 w10:=
 h.rd hi (h.rd hj (cm.call w _ _ _ h.kp (h.s hi) (h.s hj) fun x w' hx hk=>⟨x,rfl,hK x w' hx (h.keep0 hk) hk⟩))
theorem Ar.cmpG (cm:Cm w0 p f S lt) (h:Ar w0 p n c S w z) {b:Bool} {i' j':Int} {i j:Nat} (hij:b=true→i'=i∧j'=j∧i<n∧j<n) {K:Int→World→Prop}
  (hK1:b=true→∀x w',(x<0↔lt (g z i) (g z j)=true)→Ar w0 p n c S w' z→Keep None w w'→K x w') (hK2:b=false→K 0 w) :
  gd (α:=Addr) b (fun k10=>ixA p n i' 1 fun p11=>k10 p11 w) ⟨0,0,none⟩ w fun x12 _=>
  gd (α:=Int) b (fun k13=>ldI .i64 w x12 fun x14=>k13 x14 w) 0 w fun x15 _=>
  gd (α:=Addr) b (fun k16=>ixA p n j' 1 fun p17=>k16 p17 w) ⟨0,0,none⟩ w fun x18 _=>
  gd (α:=Int) b (fun k19=>ldI .i64 w x18 fun x20=>k19 x20 w) 0 w fun x21 _=>
  gd (α:=Int) b (fun k22=>clF Tryz.prog f [.int .i64 x15,.int .i64 x21] w fun e24 w3=>∃x23:Int,e24=Ending.returned (.int .i64 x23)∧k22 x23 w3) 0 w fun x25 w4=>K x25 w4:=by
 cases b with
 | true=>
  obtain ⟨rfl,rfl,hi,hj⟩:=hij rfl
  have hl:=h.len
  have at':∀{q:Nat},q<n→∀{K:Addr→Prop},(∀a,w.cell? a=some (J (g z q))→K a)→ixA p n (q:Int) 1 K:=fun hq K hK=>by
   refine h.own.ix (by omega) (by omega) fun b hb=>hK _ ?_
   rw [Nat.mul_one,Int.toNat_natCast]
   have h':=h.own
   rw [hb] at h'
   rw [h'.cell _ (by omega),List.getElem?_map,g_some (by omega)]; rfl
  refine gd_t rfl (at' hi fun a1 h1=>gd_t rfl (ldI_of h1 (gd_t rfl (at' hj fun a2 h2=>gd_t rfl (ldI_of h2 (gd_t rfl ?_))))))
  exact cm.call w _ _ _ h.kp (h.s hi) (h.s hj) fun x w' hx hk=>⟨x,rfl,hK1 rfl x w' hx (h.keep0 hk) hk⟩
 | false=>exact gd_f rfl (gd_f rfl (gd_f rfl (gd_f rfl (gd_f rfl (hK2 rfl)))))
theorem wrp {x:Int} (h : -4611686018427387904≤x∧x≤4611686018427387904):IntKind.wrap .i64 x=x:=by rw [IntKind.wrap_i64]; omega
theorem wrp1 {x:Nat} (h:x≤2305843009213693952):IntKind.wrap .i64 ((x:Int)+1)=((x+1:Nat):Int):=by rw [wrp (by omega)]; omega
theorem wrm1 {x:Nat} (h:x≤2305843009213693952) (h1:1≤x):IntKind.wrap .i64 ((x:Int) - 1)=((x - 1:Nat):Int):=by rw [wrp (by omega)]; omega
def Res (w0:World) (p:Option Addr) (n c:Nat) (S:Int→Prop) (a b:Nat) (z:List Int) (Q:List Int→Prop) (w w':World):Prop:=∃z',Ar w0 p n c S w' z'∧SP a b z z'∧Q z'∧Keep (ob p) w w'
theorem ins (cm:Cm w0 p f S lt) (hn:n≤1152921504606846976) (h:Ar w0 p n c S w z) {a b:Nat} (hab:a≤b) (hb:b≤n) :
  Calls Tryz.prog 152 #[.slice p n c,J a,J b,f] w fun e w'=>e=.returned (.tuple #[])∧Res w0 p n c S a b z (Sorted lt a b) w w':=by
 refine (V152_calls p n c a b f w (fun v w'=>v=.tuple #[]∧Res w0 p n c S a b z (Sorted lt a b) w w') ?_).mono fun e w' ⟨v,he,hv,hk⟩=>⟨by rw [he,hv],hk⟩
 unfold V152
 rw [wrp1 (by omega)]
 refine lp_of (fun s w1=>∃(i:Nat) (z1:List Int),s.1=i∧a+1≤i∧(i≤b∨i=a+1)∧Ar w0 p n c S w1 z1∧SP a b z z1∧Sorted lt a i z1∧Keep (ob p) w w1) (fun s _=>(b - s.1).toNat)
  ⟨a+1,z,rfl,Nat.le_refl _,Or.inr rfl,h,SP.refl _ _ _,fun i j h1 h2 h3=>by omega,Keep.refl _ _⟩ ?_
 rintro ⟨i',⟨⟩⟩ w1 ⟨i,z1,rfl,hi1,hi2,h1,sp1,so1,k1⟩
 simp only []
 refine pif_of (fun hlt=>?_) fun hge=>?_
 ·have hlt:i<b:=by simpa using hlt
  rw [wrp1 (by omega)]
  refine lp_of (fun s w2=>∃(j:Nat) (z2:List Int),s.1=j∧a≤j∧j≤i∧Ar w0 p n c S w2 z2∧SP a b z z2∧(∀u v,a≤u→u<v→v≤i→v≠j→lt (g z2 v) (g z2 u)=false)∧Keep (ob p) w w2) (fun s _=>s.1.toNat)
   ⟨i,z1,rfl,by omega,Nat.le_refl _,h1,sp1,fun u v h1 h2 h3 h4=>so1 u v h1 h2 (by omega),k1⟩ ?_
  rintro ⟨j',⟨⟩⟩ w2 ⟨j,z2,rfl,hj1,hj2,h2,sp2,so2,k2⟩
  simp only []
  have hl2:=h2.len
  have done:(j=a∨(a<j∧lt (g z2 j) (g z2 (j - 1))=false))→Sorted lt a (i+1) z2:=fun hd u v hu huv hv=>by
   by_cases hvj:v=j
   ·subst hvj
    rcases hd with hd | ⟨hd1,hd2⟩
    ·omega
    ·by_cases hu1:u=v - 1
     ·subst hu1; exact hd2
     ·have:=so2 u (v - 1) hu (by omega) (by omega) (by omega)
      exact cm.trans _ _ _ (h2.s (by omega)) (h2.s (by omega)) (h2.s (by omega)) this hd2
   ·exact so2 u v hu huv (by omega) hvj
  refine h2.drew.cmpG cm (i:=j) (j:=j - 1) (fun hb=>?_) (fun hb x w3 hx h3 k3=>?_) (fun hb=>?_)
  ·have hb:a<j:=by simpa using hb
   exact ⟨rfl,wrm1 (by omega) (by omega),by omega,by omega⟩
  ·have hja:a<j:=by simpa using hb
   have kk:Keep (ob p) w w3:=k2.drew.then0 k3
   rw [hb]
   refine pif_of (fun hc=>?_) fun hc=>?_
   ·have hc:x<0:=by simpa using hc
    have hlt':=hx.1 hc
    rw [wrm1 (by omega) (by omega)]
    refine h3.drew.swap (by omega) (by omega) fun w4 h4 k4=>?_
    refine ⟨⟨j - 1,swp z2 (j - 1) j,rfl,by omega,by omega,h4,sp2.trans (SP.swap (by omega) ⟨by omega,by omega⟩ ⟨by omega,by omega⟩),fun u v hu huv hv hne=>?_,kk.drew.trans k4 fun _ _ h=>h⟩,by omega⟩
    rw [g_swp (by omega) (by omega),g_swp (by omega) (by omega)]
    rw [if_neg hne]
    by_cases hvj:v=j
    ·subst hvj
     rw [if_pos rfl]
     by_cases hu1:u=v - 1
     ·rw [if_pos hu1]; exact cm.asym _ _ (h2.s (by omega)) (h2.s (by omega)) hlt'
     ·rw [if_neg hu1,if_neg (by omega)]; exact so2 u (v - 1) hu (by omega) (by omega) (by omega)
    ·rw [if_neg hvj]
     by_cases hu1:u=j - 1
     ·rw [if_pos hu1]; exact so2 j v (by omega) (by omega) hv hvj
     ·rw [if_neg hu1]
      by_cases huj:u=j
      ·rw [if_pos huj]; exact so2 (j - 1) v (by omega) (by omega) hv hvj
      ·rw [if_neg huj]; exact so2 u v hu huv hv hvj
   ·have hc:¬x<0:=by simpa using hc
    have hnl:lt (g z2 j) (g z2 (j - 1))=false:=by
     cases hq:lt (g z2 j) (g z2 (j - 1)) with
     | true=>exact absurd (hx.2 hq) hc
     | false=>rfl
    exact ⟨⟨i+1,z2,rfl,by omega,Or.inl hlt,h3,sp2,done (Or.inr ⟨hja,hnl⟩),kk⟩,by omega⟩
  ·have hja:j=a:=by simp at hb; omega
   rw [hb]
   exact pif_f rfl ⟨⟨i+1,z2,rfl,by omega,Or.inl hlt,h2.drew,sp2,done (Or.inl hja),k2.drew⟩,by omega⟩
 ·have hge:¬i<b:=by simpa using hge
  exact ⟨by first | rfl | trivial,z1,h1,sp1,fun u v hu huv hv=>so1 u v hu huv (by omega),k1⟩
theorem rev (hn:n≤1152921504606846976) (h:Ar w0 p n c S w z) {a b:Nat} (hab:a<b) (hb:b≤n) :
  Calls Tryz.prog 156 #[.slice p n c,J a,J b,f] w fun e w'=>e=.returned (.tuple #[])∧Res w0 p n c S a b z (fun _=>True) w w':=by
 refine (V156_calls p n c a b f w (fun v w'=>v=.tuple #[]∧Res w0 p n c S a b z (fun _=>True) w w') ?_).mono fun e w' ⟨v,he,hv,hk⟩=>⟨by rw [he,hv],hk⟩
 unfold V156
 rw [wrm1 (by omega) (by omega)]
 refine lp_of (fun s w1=>∃(i j:Nat) (z1:List Int),s.1=i∧s.2.1=j∧a≤i∧j<b∧(a≤j∨j≤i)∧Ar w0 p n c S w1 z1∧SP a b z z1∧Keep (ob p) w w1) (fun s _=>(s.2.1 - s.1).toNat)
  ⟨a,b - 1,z,rfl,rfl,Nat.le_refl _,by omega,by omega,h,SP.refl _ _ _,Keep.refl _ _⟩ ?_
 rintro ⟨i',j',⟨⟩⟩ w1 ⟨i,j,z1,rfl,rfl,hi,hj,hij,h1,sp1,k1⟩
 simp only []
 have hl:=h1.len
 refine pif_of (fun hlt=>?_) fun hge=>⟨by first | rfl | trivial,z1,h1,sp1,trivial,k1⟩
 have hlt:i<j:=by simpa using hlt
 refine h1.drew.swap (by omega) (by omega) fun w2 h2 k2=>?_
 rw [wrp1 (by omega),wrm1 (by omega) (by omega)]
 exact ⟨⟨i+1,j - 1,swp z1 j i,rfl,rfl,by omega,by omega,by omega,h2,sp1.trans (SP.swap (by omega) ⟨by omega,by omega⟩ ⟨by omega,by omega⟩),k1.drew.trans k2 fun _ _ h=>h⟩,by omega⟩
end
end Go.Proofs.YtmhjehodfggleaaGreat.Sort

/- slices.SortFunc over ints: partitions. -/

set_option linter.unusedVariables false
set_option linter.unusedSimpArgs false
set_option maxRecDepth 100000
namespace Go.Proofs.YtmhjehodfggleaaGreat.Sort
open Go Go.Proofs.YtmhjehodfggleaaGreat.Vc Go.Proofs.YtmhjehodfggleaaGreat.T
section
variable {w0 w:World} {p:Option Addr} {n c:Nat} {S:Int→Prop} {lt:Int→Int→Bool} {f:Value} {z:List Int}
theorem lt_irr (cm:Cm w0 p f S lt) {x:Int} (h:S x):lt x x=false:=by
 cases hq:lt x x with
 | true=>rw [←hq]; exact cm.asym x x h h hq
 | false=>rfl
theorem upP (cm:Cm w0 p f S lt) (hn:n≤1152921504606846976) (h:Ar w0 p n c S w z) {a i B:Nat} (ha:a<n) (hi:i≤B+1) (hB:B<n) {X:Int×Unit→World→Prop}
  (hX:∀(i':Nat) w',i≤i'→i'≤B+1→(∀k,i≤k→k<i'→lt (g z k) (g z a)=true)→(i'≤B→lt (g z i') (g z a)=false)→Ar w0 p n c S w' z→Keep None w w'→X ((i':Int),()) w') :
  lp (σ:=Int×Unit) (fun s w3 k=>
   gd (α:=Addr) (decide (s.1≤(B:Int))) (fun k12=>ixA p n s.1 1 fun p13=>k12 p13 (World.drew w3)) ⟨0,0,none⟩ (World.drew w3) fun x14 _=>
   gd (α:=Int) (decide (s.1≤(B:Int))) (fun k15=>ldI .i64 (World.drew w3) x14 fun x16=>k15 x16 (World.drew w3)) 0 (World.drew w3) fun x17 _=>
   gd (α:=Addr) (decide (s.1≤(B:Int))) (fun k18=>ixA p n (a:Int) 1 fun p19=>k18 p19 (World.drew w3)) ⟨0,0,none⟩ (World.drew w3) fun x20 _=>
   gd (α:=Int) (decide (s.1≤(B:Int))) (fun k21=>ldI .i64 (World.drew w3) x20 fun x22=>k21 x22 (World.drew w3)) 0 (World.drew w3) fun x23 _=>
   gd (α:=Int) (decide (s.1≤(B:Int))) (fun k24=>clF Tryz.prog f [.int .i64 x17,.int .i64 x23] (World.drew w3) fun e26 w4=>∃x25:Int,e26=Ending.returned (.int .i64 x25)∧k24 x25 w4) 0 (World.drew w3) fun x w5=>
   pif (cond (decide (s.1≤(B:Int))) (decide (x<0)) false) (k ((IntKind.wrap .i64 (s.1+1)),()) w5) (X s w5)) ((i:Int),()) w:=by
 have hl:=h.len
 refine lp_of (fun s w3=>∃i':Nat,s.1=i'∧i≤i'∧i'≤B+1∧(∀k,i≤k→k<i'→lt (g z k) (g z a)=true)∧Ar w0 p n c S w3 z∧Keep None w w3) (fun s _=>((B:Int)+1 - s.1).toNat) ⟨i,rfl,by omega,by omega,fun k h1 h2=>by omega,h,Keep.refl _ _⟩ ?_
 rintro ⟨v',⟨⟩⟩ w3 ⟨i',rfl,q1,q2,q3,h3,k3⟩
 simp only []
 refine h3.drew.cmpG cm (i:=i') (j:=a) (fun hb=>?_) (fun hb x w4 hx h4 k4=>?_) (fun hb=>?_)
 ·have hb:i'≤B:=by simp at hb; omega
  exact ⟨rfl,rfl,by omega,by omega⟩
 ·have hb0:=hb
  have hb:i'≤B:=by simp at hb0; omega
  have kk:Keep None w w4:=k3.drew.then0 k4
  rw [hb0]
  refine pif_of (fun hc=>?_) fun hc=>?_
  ·have hc:x<0:=by simpa using hc
   have hq:=hx.1 hc
   rw [wrp1 (by omega)]
   refine ⟨⟨i'+1,rfl,by omega,by omega,fun k h1 h2=>?_,h4,kk⟩,by omega⟩
   by_cases hk:k=i'
   ·rw [hk]; exact hq
   ·exact q3 k h1 (by omega)
  ·have hc:¬x<0:=by simpa using hc
   refine hX i' w4 q1 q2 q3 (fun _=>?_) h4 kk
   cases hq:lt (g z i') (g z a) with
   | true=>exact absurd (hx.2 hq) hc
   | false=>rfl
 ·have hb0:=hb
  have hb:¬i'≤B:=by simp at hb0; omega
  rw [hb0]
  exact pif_f rfl (hX i' _ q1 q2 q3 (fun hh=>absurd hh hb) h3.drew k3.drew)
theorem dnP (cm:Cm w0 p f S lt) (hn:n≤1152921504606846976) (h:Ar w0 p n c S w z) {a i B:Nat} (ha:a<n) (hi:B≤i+1) (hB:1≤B) (hin:i<n) {X:Int×Unit→World→Prop}
  (hX:∀(i':Nat) w',i'≤i→B≤i'+1→(∀k,i'<k→k≤i→lt (g z k) (g z a)=false)→(B≤i'→lt (g z i') (g z a)=true)→Ar w0 p n c S w' z→Keep None w w'→X ((i':Int),()) w') :
  lp (σ:=Int×Unit) (fun s w3 k=>
   gd (α:=Addr) (decide ((B:Int)≤s.1)) (fun k12=>ixA p n s.1 1 fun p13=>k12 p13 (World.drew w3)) ⟨0,0,none⟩ (World.drew w3) fun x14 _=>
   gd (α:=Int) (decide ((B:Int)≤s.1)) (fun k15=>ldI .i64 (World.drew w3) x14 fun x16=>k15 x16 (World.drew w3)) 0 (World.drew w3) fun x17 _=>
   gd (α:=Addr) (decide ((B:Int)≤s.1)) (fun k18=>ixA p n (a:Int) 1 fun p19=>k18 p19 (World.drew w3)) ⟨0,0,none⟩ (World.drew w3) fun x20 _=>
   gd (α:=Int) (decide ((B:Int)≤s.1)) (fun k21=>ldI .i64 (World.drew w3) x20 fun x22=>k21 x22 (World.drew w3)) 0 (World.drew w3) fun x23 _=>
   gd (α:=Int) (decide ((B:Int)≤s.1)) (fun k24=>clF Tryz.prog f [.int .i64 x17,.int .i64 x23] (World.drew w3) fun e26 w4=>∃x25:Int,e26=Ending.returned (.int .i64 x25)∧k24 x25 w4) 0 (World.drew w3) fun x w5=>
   pif (cond (decide ((B:Int)≤s.1)) (!(decide (x<0))) false) (k ((IntKind.wrap .i64 (s.1 - 1)),()) w5) (X s w5)) ((i:Int),()) w:=by
 have hl:=h.len
 refine lp_of (fun s w3=>∃i':Nat,s.1=i'∧i'≤i∧B≤i'+1∧(∀k,i'<k→k≤i→lt (g z k) (g z a)=false)∧Ar w0 p n c S w3 z∧Keep None w w3) (fun s _=>(s.1+1 - (B:Int)).toNat) ⟨i,rfl,by omega,by omega,fun k h1 h2=>by omega,h,Keep.refl _ _⟩ ?_
 rintro ⟨v',⟨⟩⟩ w3 ⟨i',rfl,q1,q2,q3,h3,k3⟩
 simp only []
 refine h3.drew.cmpG cm (i:=i') (j:=a) (fun hb=>?_) (fun hb x w4 hx h4 k4=>?_) (fun hb=>?_)
 ·have hb:B≤i':=by simp at hb; omega
  exact ⟨rfl,rfl,by omega,by omega⟩
 ·have hb0:=hb
  have hb:B≤i':=by simp at hb0; omega
  have kk:Keep None w w4:=k3.drew.then0 k4
  rw [hb0]
  refine pif_of (fun hc=>?_) fun hc=>?_
  ·have hc:¬x<0:=by simpa using hc
   have hq:lt (g z i') (g z a)=false:=by
    cases hq:lt (g z i') (g z a) with
    | true=>exact absurd (hx.2 hq) hc
    | false=>rfl
   rw [wrm1 (by omega) (by omega)]
   refine ⟨⟨i' - 1,rfl,by omega,by omega,fun k h1 h2=>?_,h4,kk⟩,by omega⟩
   by_cases hk:k=i'
   ·rw [hk]; exact hq
   ·exact q3 k (by omega) h2
  ·have hc:x<0:=by simpa using hc
   exact hX i' w4 q1 q2 q3 (fun _=>hx.1 hc) h4 kk
 ·have hb0:=hb
  have hb:¬B≤i':=by simp at hb0; omega
  rw [hb0]
  exact pif_f rfl (hX i' _ q1 q2 q3 (fun hh=>absurd hh hb) h3.drew k3.drew)
theorem upE (cm:Cm w0 p f S lt) (hn:n≤1152921504606846976) (h:Ar w0 p n c S w z) {a i B:Nat} (ha:a<n) (hi:i≤B+1) (hB:B<n) {X:Int×Unit→World→Prop}
  (hX:∀(i':Nat) w',i≤i'→i'≤B+1→(∀k,i≤k→k<i'→lt (g z a) (g z k)=false)→(i'≤B→lt (g z a) (g z i')=true)→Ar w0 p n c S w' z→Keep None w w'→X ((i':Int),()) w') :
  lp (σ:=Int×Unit) (fun s w3 k=>
   gd (α:=Addr) (decide (s.1≤(B:Int))) (fun k12=>ixA p n (a:Int) 1 fun p13=>k12 p13 (World.drew w3)) ⟨0,0,none⟩ (World.drew w3) fun x14 _=>
   gd (α:=Int) (decide (s.1≤(B:Int))) (fun k15=>ldI .i64 (World.drew w3) x14 fun x16=>k15 x16 (World.drew w3)) 0 (World.drew w3) fun x17 _=>
   gd (α:=Addr) (decide (s.1≤(B:Int))) (fun k18=>ixA p n s.1 1 fun p19=>k18 p19 (World.drew w3)) ⟨0,0,none⟩ (World.drew w3) fun x20 _=>
   gd (α:=Int) (decide (s.1≤(B:Int))) (fun k21=>ldI .i64 (World.drew w3) x20 fun x22=>k21 x22 (World.drew w3)) 0 (World.drew w3) fun x23 _=>
   gd (α:=Int) (decide (s.1≤(B:Int))) (fun k24=>clF Tryz.prog f [.int .i64 x17,.int .i64 x23] (World.drew w3) fun e26 w4=>∃x25:Int,e26=Ending.returned (.int .i64 x25)∧k24 x25 w4) 0 (World.drew w3) fun x w5=>
   pif (cond (decide (s.1≤(B:Int))) (!(decide (x<0))) false) (k ((IntKind.wrap .i64 (s.1+1)),()) w5) (X s w5)) ((i:Int),()) w:=by
 have hl:=h.len
 refine lp_of (fun s w3=>∃i':Nat,s.1=i'∧i≤i'∧i'≤B+1∧(∀k,i≤k→k<i'→lt (g z a) (g z k)=false)∧Ar w0 p n c S w3 z∧Keep None w w3) (fun s _=>((B:Int)+1 - s.1).toNat) ⟨i,rfl,by omega,by omega,fun k h1 h2=>by omega,h,Keep.refl _ _⟩ ?_
 rintro ⟨v',⟨⟩⟩ w3 ⟨i',rfl,q1,q2,q3,h3,k3⟩
 simp only []
 refine h3.drew.cmpG cm (i:=a) (j:=i') (fun hb=>?_) (fun hb x w4 hx h4 k4=>?_) (fun hb=>?_)
 ·have hb:i'≤B:=by simp at hb; omega
  exact ⟨rfl,rfl,by omega,by omega⟩
 ·have hb0:=hb
  have hb:i'≤B:=by simp at hb0; omega
  have kk:Keep None w w4:=k3.drew.then0 k4
  rw [hb0]
  refine pif_of (fun hc=>?_) fun hc=>?_
  ·have hc:¬x<0:=by simpa using hc
   have hq:lt (g z a) (g z i')=false:=by
    cases hq:lt (g z a) (g z i') with
    | true=>exact absurd (hx.2 hq) hc
    | false=>rfl
   rw [wrp1 (by omega)]
   refine ⟨⟨i'+1,rfl,by omega,by omega,fun k h1 h2=>?_,h4,kk⟩,by omega⟩
   by_cases hk:k=i'
   ·rw [hk]; exact hq
   ·exact q3 k h1 (by omega)
  ·have hc:x<0:=by simpa using hc
   exact hX i' w4 q1 q2 q3 (fun _=>hx.1 hc) h4 kk
 ·have hb0:=hb
  have hb:¬i'≤B:=by simp at hb0; omega
  rw [hb0]
  exact pif_f rfl (hX i' _ q1 q2 q3 (fun hh=>absurd hh hb) h3.drew k3.drew)
theorem dnE (cm:Cm w0 p f S lt) (hn:n≤1152921504606846976) (h:Ar w0 p n c S w z) {a i B:Nat} (ha:a<n) (hi:B≤i+1) (hB:1≤B) (hin:i<n) {X:Int×Unit→World→Prop}
  (hX:∀(i':Nat) w',i'≤i→B≤i'+1→(∀k,i'<k→k≤i→lt (g z a) (g z k)=true)→(B≤i'→lt (g z a) (g z i')=false)→Ar w0 p n c S w' z→Keep None w w'→X ((i':Int),()) w') :
  lp (σ:=Int×Unit) (fun s w3 k=>
   gd (α:=Addr) (decide ((B:Int)≤s.1)) (fun k12=>ixA p n (a:Int) 1 fun p13=>k12 p13 (World.drew w3)) ⟨0,0,none⟩ (World.drew w3) fun x14 _=>
   gd (α:=Int) (decide ((B:Int)≤s.1)) (fun k15=>ldI .i64 (World.drew w3) x14 fun x16=>k15 x16 (World.drew w3)) 0 (World.drew w3) fun x17 _=>
   gd (α:=Addr) (decide ((B:Int)≤s.1)) (fun k18=>ixA p n s.1 1 fun p19=>k18 p19 (World.drew w3)) ⟨0,0,none⟩ (World.drew w3) fun x20 _=>
   gd (α:=Int) (decide ((B:Int)≤s.1)) (fun k21=>ldI .i64 (World.drew w3) x20 fun x22=>k21 x22 (World.drew w3)) 0 (World.drew w3) fun x23 _=>
   gd (α:=Int) (decide ((B:Int)≤s.1)) (fun k24=>clF Tryz.prog f [.int .i64 x17,.int .i64 x23] (World.drew w3) fun e26 w4=>∃x25:Int,e26=Ending.returned (.int .i64 x25)∧k24 x25 w4) 0 (World.drew w3) fun x w5=>
   pif (cond (decide ((B:Int)≤s.1)) (decide (x<0)) false) (k ((IntKind.wrap .i64 (s.1 - 1)),()) w5) (X s w5)) ((i:Int),()) w:=by
 have hl:=h.len
 refine lp_of (fun s w3=>∃i':Nat,s.1=i'∧i'≤i∧B≤i'+1∧(∀k,i'<k→k≤i→lt (g z a) (g z k)=true)∧Ar w0 p n c S w3 z∧Keep None w w3) (fun s _=>(s.1+1 - (B:Int)).toNat) ⟨i,rfl,by omega,by omega,fun k h1 h2=>by omega,h,Keep.refl _ _⟩ ?_
 rintro ⟨v',⟨⟩⟩ w3 ⟨i',rfl,q1,q2,q3,h3,k3⟩
 simp only []
 refine h3.drew.cmpG cm (i:=a) (j:=i') (fun hb=>?_) (fun hb x w4 hx h4 k4=>?_) (fun hb=>?_)
 ·have hb:B≤i':=by simp at hb; omega
  exact ⟨rfl,rfl,by omega,by omega⟩
 ·have hb0:=hb
  have hb:B≤i':=by simp at hb0; omega
  have kk:Keep None w w4:=k3.drew.then0 k4
  rw [hb0]
  refine pif_of (fun hc=>?_) fun hc=>?_
  ·have hc:x<0:=by simpa using hc
   have hq:=hx.1 hc
   rw [wrm1 (by omega) (by omega)]
   refine ⟨⟨i' - 1,rfl,by omega,by omega,fun k h1 h2=>?_,h4,kk⟩,by omega⟩
   by_cases hk:k=i'
   ·rw [hk]; exact hq
   ·exact q3 k (by omega) h2
  ·have hc:¬x<0:=by simpa using hc
   refine hX i' w4 q1 q2 q3 (fun _=>?_) h4 kk
   cases hq:lt (g z a) (g z i') with
   | true=>exact absurd (hx.2 hq) hc
   | false=>rfl
 ·have hb0:=hb
  have hb:¬B≤i':=by simp at hb0; omega
  rw [hb0]
  exact pif_f rfl (hX i' _ q1 q2 q3 (fun hh=>absurd hh hb) h3.drew k3.drew)
def PeQ (lt:Int→Int→Bool) (a b:Nat) (x:Int) (m:Nat) (z:List Int):Prop:=a<m∧m≤b∧(∀k,a≤k→k<m→lt x (g z k)=false)∧∀k,m≤k→k<b→lt x (g z k)=true
theorem peq (cm:Cm w0 p f S lt) (hn:n≤1152921504606846976) (h:Ar w0 p n c S w z) {a b q:Nat} (hab:a<b) (hb:b≤n) (hq:a≤q∧q<b) :
  Calls Tryz.prog 158 #[.slice p n c,J a,J b,J q,f] w fun e w'=>∃m:Nat,e=.returned (J m)∧Res w0 p n c S a b z (PeQ lt a b (g z q) m) w w':=by
 refine (V158_calls p n c a b q f w (fun v w'=>∃m:Nat,v=J m∧Res w0 p n c S a b z (PeQ lt a b (g z q) m) w w') ?_).mono fun e w' ⟨v,he,m,hv,hk⟩=>⟨m,by rw [he,hv],hk⟩
 unfold V158
 have hl:=h.len
 refine h.drew.swap (by omega) (by omega) fun w2 h2 k2=>?_
 rw [wrp1 (by omega),wrm1 (by omega) (by omega)]
 have e0:g (swp z q a) a=g z q:=by
  rw [g_swp (by omega) (by omega)]
  by_cases haq:a=q
  ·rw [if_pos haq,haq]
  ·rw [if_neg haq,if_pos rfl]
 have sp0:SP a b z (swp z q a):=SP.swap (by omega) hq ⟨Nat.le_refl _,hab⟩
 refine lp_of (fun s w3=>∃(i j:Nat) (z1:List Int),s.1=i∧s.2.1=j∧a+1≤i∧a≤j∧j<b∧i≤j+1∧Ar w0 p n c S w3 z1∧SP a b z z1∧g z1 a=g z q∧(∀k,a≤k→k<i→lt (g z q) (g z1 k)=false)∧(∀k,j<k→k<b→lt (g z q) (g z1 k)=true)∧Keep (ob p) w w3)
  (fun s _=>(s.2.1+1 - s.1).toNat) ⟨a+1,b - 1,_,rfl,rfl,Nat.le_refl _,by omega,by omega,by omega,h2,sp0,e0,fun k h1 h3=>?_,fun k h1 h3=>by omega,(Keep.refl _ w).drew.trans k2 fun _ _ h=>h⟩ ?_
 ·obtain rfl:k=a:=by omega
  rw [e0]
  exact lt_irr cm (h.s (by omega))
 rintro ⟨i',j',⟨⟩⟩ w3 ⟨i,j,z1,rfl,rfl,hi,hj,hjb,hij,h3,sp3,e3,lo3,hi3,k3⟩
 simp only []
 refine upE cm hn h3 (a:=a) (i:=i) (B:=j) (by omega) hij (by omega) fun i' w4 q1 q2 q3 q4 h4 k4=>?_
 simp only []
 refine dnE cm hn h4 (a:=a) (i:=j) (B:=i') (by omega) (by omega) (by omega) (by omega) fun j' w5 r1 r2 r3 r4 h5 k5=>?_
 have kk:Keep (ob p) w w5:=(k3.then0 k4).then0 k5
 simp only []
 have hl5:=h5.len
 refine pif_of (fun hgt=>?_) fun hle=>?_
 ·have hgt:j'<i':=by simp at hgt; omega
  refine ⟨i',rfl,z1,h5,sp3,⟨by omega,by omega,fun k h1 h2=>?_,fun k h1 h2=>?_⟩,kk⟩
  ·by_cases hk:k<i
   ·exact lo3 k h1 hk
   ·rw [←e3]; exact q3 k (by omega) h2
  ·by_cases hk:j<k
   ·exact hi3 k hk h2
   ·rw [←e3]; exact r3 k (by omega) (by omega)
 ·have hle:i'≤j':=by simp at hle; omega
  refine h5.drew.swap (by omega) (by omega) fun w6 h6 k6=>?_
  rw [wrp1 (by omega),wrm1 (by omega) (by omega)]
  have a1:=q4 (by omega)
  have a2:=r4 hle
  have hne:i'≠j':=fun hh=>by rw [hh] at a1; rw [a1] at a2; cases a2
  refine ⟨⟨i'+1,j' - 1,swp z1 j' i',rfl,rfl,by omega,by omega,by omega,by omega,h6,sp3.trans (SP.swap (by omega) ⟨by omega,by omega⟩ ⟨by omega,by omega⟩),?_,fun k h1 h2=>?_,fun k h1 h2=>?_,kk.drew.trans k6 fun _ _ h=>h⟩,by omega⟩
  ·rw [g_swp (by omega) (by omega),if_neg (by omega),if_neg (by omega)]; exact e3
  ·rw [g_swp (by omega) (by omega),if_neg (by omega)]
   by_cases hk:k=i'
   ·rw [if_pos hk,←e3]; exact a2
   ·rw [if_neg hk]
    by_cases hk2:k<i
    ·exact lo3 k h1 hk2
    ·rw [←e3]; exact q3 k (by omega) (by omega)
  ·rw [g_swp (by omega) (by omega)]
   by_cases hk:k=j'
   ·rw [if_pos hk,←e3]; exact a1
   ·rw [if_neg hk,if_neg (by omega)]
    by_cases hk2:j<k
    ·exact hi3 k hk2 h2
    ·rw [←e3]; exact r3 k (by omega) (by omega)
def PaR (lt:Int→Int→Bool) (a b m:Nat) (z:List Int):Prop:=a≤m∧m<b∧(∀k,a≤k→k<m→lt (g z k) (g z m)=true)∧∀k,m<k→k<b→lt (g z k) (g z m)=false
theorem par_end (h:Ar w0 p n c S w z) {a b j:Nat} {z1:List Int} (hb:b≤n) (h1:Ar w0 p n c S w z1) (hj:a≤j∧j<b) (lo:∀k,a+1≤k→k≤j→lt (g z1 k) (g z1 a)=true) (hi:∀k,j<k→k<b→lt (g z1 k) (g z1 a)=false) :
  PaR lt a b j (swp z1 a j):=by
 have hl:=h1.len
 refine ⟨hj.1,hj.2,fun k q1 q2=>?_,fun k q1 q2=>?_⟩
 ·rw [g_swp (by omega) (by omega),g_swp (by omega) (by omega),if_neg (show ¬k=j by omega)]
  rw [if_neg (show ¬j=a by omega),if_pos rfl]
  by_cases hk:k=a
  ·rw [if_pos hk]; exact lo j (by omega) (Nat.le_refl _)
  ·rw [if_neg hk]; exact lo k (by omega) (by omega)
 ·rw [g_swp (by omega) (by omega),g_swp (by omega) (by omega),if_neg (show ¬k=a by omega),if_neg (show ¬k=j by omega)]
  have:=hi k q1 q2
  by_cases hja:j=a
  ·rw [if_pos hja,hja]; exact this
  ·rw [if_neg hja,if_pos rfl]; exact this
theorem par (cm:Cm w0 p f S lt) (hn:n≤1152921504606846976) (h:Ar w0 p n c S w z) {a b q:Nat} (hab:a<b) (hb:b≤n) (hq:a≤q∧q<b) :
  Calls Tryz.prog 159 #[.slice p n c,J a,J b,J q,f] w fun e w'=>∃(m:Nat) (t:Bool),e=.returned (.tuple #[J m,.bool t])∧Res w0 p n c S a b z (PaR lt a b m) w w':=by
 refine (V159_calls p n c a b q f w (fun v w'=>∃(m:Nat) (t:Bool),v=.tuple #[J m,.bool t]∧Res w0 p n c S a b z (PaR lt a b m) w w') ?_).mono fun e w' ⟨v,he,m,t,hv,hk⟩=>⟨m,t,by rw [he,hv],hk⟩
 unfold V159
 have hl:=h.len
 refine h.drew.swap (by omega) (by omega) fun w2 h2 k2=>?_
 rw [wrp1 (by omega),wrm1 (by omega) (by omega)]
 have sp0:SP a b z (swp z q a):=SP.swap (by omega) hq ⟨Nat.le_refl _,hab⟩
 have k02:Keep (ob p) w w2:=(Keep.refl _ w).drew.trans k2 fun _ _ h=>h
 generalize swp z q a=z1 at *
 simp only []
 refine upP cm hn h2 (a:=a) (i:=a+1) (B:=b - 1) (by omega) (by omega) (by omega) fun i w3 q1 q2 q3 q4 h3 k3=>?_
 simp only []
 refine dnP cm hn h3 (a:=a) (i:=b - 1) (B:=i) (by omega) (by omega) (by omega) (by omega) fun j w4 r1 r2 r3 r4 h4 k4=>?_
 have kk:Keep (ob p) w w4:=(k02.then0 k3).then0 k4
 simp only []
 have hl4:=h4.len
 refine pif_of (fun hgt=>?_) fun hle=>?_
 ·have hgt:j<i:=by simp at hgt; omega
  refine h4.drew.swap (by omega) (by omega) fun w5 h5 k5=>?_
  refine ⟨j,true,rfl,swp z1 a j,h5,sp0.trans (SP.swap (by omega) ⟨by omega,by omega⟩ ⟨by omega,by omega⟩),par_end h4 hb h4 ⟨by omega,by omega⟩ (fun k h1 h2=>q3 k h1 (by omega)) (fun k h1 h2=>r3 k h1 (by omega)),kk.drew.trans k5 fun _ _ h=>h⟩
 ·have hle:i≤j:=by simp at hle; omega
  refine h4.drew.swap (by omega) (by omega) fun w5 h5 k5=>?_
  rw [wrp1 (by omega),wrm1 (by omega) (by omega)]
  have a1:=q4 (by omega)
  have a2:=r4 hle
  have hne:i≠j:=fun hh=>by rw [hh] at a1; rw [a1] at a2; cases a2
  have swq:∀{i j:Nat} {z1:List Int},z1.length=n→a+1≤i→i<j→j<b→lt (g z1 i) (g z1 a)=false→lt (g z1 j) (g z1 a)=true→(∀k,a+1≤k→k<i→lt (g z1 k) (g z1 a)=true)→(∀k,j<k→k<b→lt (g z1 k) (g z1 a)=false)→
    g (swp z1 j i) a=g z1 a∧(∀k,a+1≤k→k<i+1→lt (g (swp z1 j i) k) (g z1 a)=true)∧(∀k,j - 1<k→k<b→lt (g (swp z1 j i) k) (g z1 a)=false):=by
   intro i j z1 hlz hi hij hjb a1 a2 lo hi2
   refine ⟨by rw [g_swp (by omega) (by omega),if_neg (by omega),if_neg (by omega)],fun k h1 h2=>?_,fun k h1 h2=>?_⟩
   ·rw [g_swp (by omega) (by omega),if_neg (by omega)]
    by_cases hk:k=i
    ·rw [if_pos hk]; exact a2
    ·rw [if_neg hk]; exact lo k h1 (by omega)
   ·rw [g_swp (by omega) (by omega)]
    by_cases hk:k=j
    ·rw [if_pos hk]; exact a1
    ·rw [if_neg hk,if_neg (by omega)]; exact hi2 k (by omega) h2
  have no:∀{x:Bool},x≠true→x=false:=fun h=>by cases ‹Bool›<;>simp_all
  obtain ⟨b1,b2,b3⟩:=swq hl4 (by omega) (by omega) (by omega) a1 a2 (fun k h1 h2=>q3 k h1 h2) (fun k h1 h2=>r3 k h1 (by omega))
  have sp5:SP a b z (swp z1 j i):=sp0.trans (SP.swap (by omega) ⟨by omega,by omega⟩ ⟨by omega,by omega⟩)
  have k05:Keep (ob p) w w5:=kk.drew.trans k5 fun _ _ h=>h
  have j1:1≤j:=by omega
  refine lp_of (fun s w6=>∃(i j:Nat) (z2:List Int),s.1=i∧s.2.1=j∧a+1≤i∧a≤j∧j<b∧i≤j+1∧Ar w0 p n c S w6 z2∧SP a b z z2∧(∀k,a+1≤k→k<i→lt (g z2 k) (g z2 a)=true)∧(∀k,j<k→k<b→lt (g z2 k) (g z2 a)=false)∧Keep (ob p) w w6)
   (fun s _=>(s.2.1+1 - s.1).toNat) ⟨i+1,j - 1,swp z1 j i,rfl,rfl,by omega,by omega,by omega,by omega,h5,sp5,by rw [b1]; exact b2,by rw [b1]; exact b3,k05⟩ ?_
  rintro ⟨i',j',⟨⟩⟩ w6 ⟨i,j,z2,rfl,rfl,hi,hj,hjb,hij,h6,sp6,lo6,hi6,k6⟩
  simp only []
  refine upP cm hn h6 (a:=a) (i:=i) (B:=j) (by omega) hij (by omega) fun i' w7 q1 q2 q3 q4 h7 k7=>?_
  simp only []
  refine dnP cm hn h7 (a:=a) (i:=j) (B:=i') (by omega) (by omega) (by omega) (by omega) fun j' w8 r1 r2 r3 r4 h8 k8=>?_
  have kk:Keep (ob p) w w8:=(k6.then0 k7).then0 k8
  simp only []
  have hl8:=h8.len
  have lo':∀k,a+1≤k→k<i'→lt (g z2 k) (g z2 a)=true:=fun k h1 h2=>by
   by_cases hk:k<i
   ·exact lo6 k h1 hk
   ·exact q3 k (by omega) h2
  have hi':∀k,j'<k→k<b→lt (g z2 k) (g z2 a)=false:=fun k h1 h2=>by
   by_cases hk:j<k
   ·exact hi6 k hk h2
   ·exact r3 k h1 (by omega)
  refine pif_of (fun hgt=>?_) fun hle=>?_
  ·have hgt:j'<i':=by simp at hgt; omega
   refine h8.drew.swap (by omega) (by omega) fun w9 h9 k9=>?_
   exact ⟨j',false,rfl,swp z2 a j',h9,sp6.trans (SP.swap (by omega) ⟨by omega,by omega⟩ ⟨by omega,by omega⟩),par_end h8 hb h8 ⟨by omega,by omega⟩ (fun k h1 h2=>lo' k h1 (by omega)) hi',kk.drew.trans k9 fun _ _ h=>h⟩
  ·have hle:i'≤j':=by simp at hle; omega
   refine h8.drew.swap (by omega) (by omega) fun w9 h9 k9=>?_
   rw [wrp1 (by omega),wrm1 (by omega) (by omega)]
   have a1:=q4 (by omega)
   have a2:=r4 hle
   have hne:i'≠j':=fun hh=>by rw [hh] at a1; rw [a1] at a2; cases a2
   obtain ⟨b1,b2,b3⟩:=swq hl8 (by omega) (by omega) (by omega) a1 a2 lo' hi'
   exact ⟨⟨i'+1,j' - 1,swp z2 j' i',rfl,rfl,by omega,by omega,by omega,by omega,h9,sp6.trans (SP.swap (by omega) ⟨by omega,by omega⟩ ⟨by omega,by omega⟩),by rw [b1]; exact b2,by rw [b1]; exact b3,kk.drew.trans k9 fun _ _ h=>h⟩,by omega⟩
end
end Go.Proofs.YtmhjehodfggleaaGreat.Sort
