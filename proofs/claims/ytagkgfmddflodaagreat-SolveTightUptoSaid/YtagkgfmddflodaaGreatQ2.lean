/- One part of the texts on which the proof of a law rests: read the last one first. -/
import Derived.Test.YtagkgfmddflodaaGreatQ1
import Derived.Deep.DeepAppendWide
import Derived.MapKept
import Derived.Test.YtagkgfmddflodaaGreatProg
import Derived.Shelf.SlSortCmp.NoneTotal
import Derived.Lib.SliceRun
import Derived.Laws.StructEq
import Derived.Maps.RangeRun
set_option linter.unusedVariables false
set_option linter.unusedSimpArgs false
set_option linter.unusedSectionVars false
set_option maxRecDepth 100000
namespace Go.Proofs.YtagkgfmddflodaaGreat
namespace Trail
open Go Vc T
def jO (R:List E) (v:Nat):Option E:=R.find? (λe=>e.lit.natAbs==v)
def fR (n:Nat) (R:List E) (l:Int):Int:=if bW n l then (match jO R l.natAbs with | some e=>if e.lit=l then 1 else -1 | none=>0) else 0
def gj (n:Nat) (R:List E) (v:Int):Int:=if decide (1<=v)&&bW n v then (match jO R v.natAbs with | some e=>e.lv | none=>-1) else -1
def ij (n:Nat) (R:List E) (v:Int):Int:=if decide (1<=v)&&bW n v then (match jO R v.natAbs with | some e=>e.rs | none=>-1) else -1
def bZ (n:Nat) (R:List E) (l:Int):Int:=if bW n l then (match jO R l.natAbs with | some _=>50 | none=>0) else 1
theorem Ee {R:List E} {l:Int} : jO R l.natAbs=none↔Open R l:=by
 unfold jO Open;rw [List.find?_eq_none];constructor
 ·intro h e he; simpa using h e he
 ·intro h e he; simpa using h e he
def cL (k:Int) (R:List E):List E:=R.filter λe=>decide (k<e.lv)
def upto (k:Int) (R:List E):List E:=R.filter λe=>decide (e.lv<=k)
def dK (n:Nat) (R:List E) (l r:Int):Int:=if bZ n R l=0 then (if r<0 then 2 else 0) else bZ n R l
def Tr (n:Nat) (w:World) (T:TI) (R:List E) (L:List Int):Prop:=∃aH aP,ez w T (lits R) L aH aP/\St n R L/\VR n R aH aP
section
variable {n:Nat} {w:World} {T:TI} {R:List E} {L:List Int}
theorem Tr.small (h:Tr n w T R L):n<=1048576/\R.length<=n/\L.length<=n:=by
 obtain ⟨aH,aP,h1,h2,h3⟩:=h;have:=h1.small;rw [h3.len] at this;exact ⟨this,h2.len,Nat.le_trans h2.T5 h2.len⟩
theorem Tr.st (h:Tr n w T R L):St n R L:=by obtain ⟨_,_,_,h2,_⟩:=h; exact h2
theorem Tr.ax {w':World} {K:Nat->Prop} (h:Tr n w T R L) (hk:af K w w') (hn:∀i,T.F i->¬K i):Tr n w' T R L:=by
 obtain ⟨aH,aP,h1,h2⟩:=h;exact ⟨aH,aP,h1.ax hk hn,h2⟩
theorem Tr.aa {w':World} (h:Tr n w T R L) (hk:af aq w w'):Tr n w' T R L:=h.ax hk λ_ _ h=>h
theorem Tr.drew (h:Tr n w T R L):Tr n w.drew T R L:=by
 obtain ⟨aH,aP,h1,h2⟩:=h;exact ⟨aH,aP,h1.drew,h2⟩
theorem Tr.lt (h:Tr n w T R L):∀i,T.F i->i<w.heap.size:=by
 obtain ⟨aH,aP,h1,h2⟩:=h;exact h1.lt
theorem iW (R:List E):(lits R).length=R.length:=by simp [lits]
theorem Cr (R:List E) (v:Nat):sg R v=match jO R v with | some e=>xb e.lit | none=>0:=rfl
theorem qz {R:List E} {v:Nat} {e:E} (h:jO R v=some e):e.lit.natAbs=v/\e∈R:=by
 unfold jO at h;exact ⟨by simpa using List.find?_some h,List.mem_of_find?_eq_some h⟩
theorem VR.Ho {aH:List Int} {aP:List (Int×Int)} (h:VR n R aH aP) (l:Int):Trail.Ho aH l=fR n R l:=by
 unfold Trail.Ho fR;rw [h.len];rcases Bool.eq_false_or_eq_true (bW n l) with hb | hb
 ·rw [hb,if_pos rfl,if_pos rfl];have aM:=jA hb;rw [h.val _ aM.1 aM.2,Cr];cases he:jO R l.natAbs with
  | none=>
   simp only [];split
   ·rfl
   ·rfl
  | some e=>
   have mR:=qz he;simp only [xb];by_cases h1:l<0
   ·rw [if_pos h1];by_cases h2:e.lit<0
    ·rw [if_pos h2,if_pos (by omega)]; rfl
    ·rw [if_neg h2,if_neg (by omega)]; rfl
   ·rw [if_neg h1];by_cases h2:e.lit<0
    ·rw [if_pos h2,if_neg (by omega)]
    ·rw [if_neg h2,if_pos (by omega)]
 ·rw [hb,if_neg (by simp),if_neg (by simp)]
theorem VR.known {aH:List Int} {aP:List (Int×Int)} (h:VR n R aH aP) (v:Int) :
  mQ aH aP v=if decide (1<=v)&&bW n v then (jO R v.natAbs).map (λe=>(e.lv,e.rs)) else none:=by
 unfold mQ;rw [h.len,Bool.and_comm (bW n v)];rcases Bool.eq_false_or_eq_true (decide (1<=v)&&bW n v) with hb | hb
 ·rw [hb,if_pos rfl,Bool.true_and];rw [Bool.and_eq_true] at hb;have aM:=jA hb.2;rw [h.val _ aM.1 aM.2,Cr];cases he:jO R v.natAbs with
  | none=>simp
  | some e=>
   have mR:=qz he;have:xb e.lit≠0:=by unfold xb; split<;>decide
   have t:=h.told e mR.2;rw [mR.1] at t;simp only [Option.map_some];rw [if_pos (by simpa using this),t]
 ·rw [hb,Bool.false_and,if_neg (by simp),if_neg (by simp)]
theorem VR.free {aH:List Int} {aP:List (Int×Int)} (h:VR n R aH aP) (l:Int):fC aH l=bZ n R l:=by
 unfold fC bZ;rw [h.len];rcases Bool.eq_false_or_eq_true (bW n l) with hb | hb
 ·rw [hb,if_pos rfl,if_pos rfl];have aM:=jA hb;rw [h.val _ aM.1 aM.2,Cr];cases he:jO R l.natAbs with
  | none=>rfl
  | some e=>
   have:xb e.lit≠0:=by unfold xb; split<;>decide
   simp only [];rw [if_neg this]
 ·rw [hb,if_neg (by simp),if_neg (by simp)]
theorem gz {l:Int} (h:bZ n R l=0):bW n l=true/\Open R l:=by
 unfold bZ at h;split at h
 ·rename_i hb;cases he:jO R l.natAbs with
  | none=>exact ⟨hb,Ee.1 he⟩
  | some e=>rw [he] at h; cases h
 ·cases h
theorem Tr.value (h:Tr n w T R L) (l:Int) (hl : -9223372036854775808<=l) :
  Calls Tryz.prog 115 #[Pt T.t,I l] w λe w'=>e=.returned (I8 (fR n R l))/\af aq w w':=by
 obtain ⟨aH,aP,h1,h2,h3⟩:=h;exact (TX h1 l hl).mono λe w' ⟨he,hk,_⟩=>⟨by rw [he,h3.Ho],hk⟩
theorem Tr.yj (h:Tr n w T R L) (l:Int) (hl : -9223372036854775808<=l) :
  Calls Tryz.prog 170 #[Pt T.t,I l] w λe w'=>e=.returned (I (gj n R l))/\af aq w w':=by
 obtain ⟨aH,aP,h1,h2,h3⟩:=h;refine (LR h1 l hl).mono λe w' ⟨he,hk,_⟩=>⟨?_,hk⟩
 rw [he];unfold Cj gj;rw [h3.known];split
 ·rename_i x hx;split at hx
  ·rename_i hc;rw [if_pos hc];cases hq:jO R l.natAbs with
   | none=>rw [hq] at hx; cases hx
   | some e=>rw [hq] at hx; injection hx with hx; rw [<-hx]
  ·cases hx
 ·rename_i hx;split at hx
  ·rename_i hc;rw [if_pos hc];cases hq:jO R l.natAbs with
   | none=>rfl
   | some e=>rw [hq] at hx; cases hx
  ·rename_i hc;rw [if_neg hc]
theorem Tr.reason (h:Tr n w T R L) (l:Int) (hl : -9223372036854775808<=l) :
  Calls Tryz.prog 171 #[Pt T.t,I l] w λe w'=>e=.returned (I (ij n R l))/\af aq w w':=by
 obtain ⟨aH,aP,h1,h2,h3⟩:=h;refine (Pa h1 l hl).mono λe w' ⟨he,hk,_⟩=>⟨?_,hk⟩
 rw [he];unfold fq ij;rw [h3.known];split
 ·rename_i x hx;split at hx
  ·rename_i hc;rw [if_pos hc];cases hq:jO R l.natAbs with
   | none=>rw [hq] at hx; cases hx
   | some e=>rw [hq] at hx; injection hx with hx; rw [<-hx]
  ·cases hx
 ·rename_i hx;split at hx
  ·rename_i hc;rw [if_pos hc];cases hq:jO R l.natAbs with
   | none=>rfl
   | some e=>rw [hq] at hx; cases hx
  ·rename_i hc;rw [if_neg hc]
theorem Tr.level (h:Tr n w T R L):Calls Tryz.prog 134 #[Pt T.t] w λe w'=>e=.returned (I L.length)/\w'=w:=by
 obtain ⟨aH,aP,h1,h2,h3⟩:=h;exact TY h1
def eY (w:World) (T:TI) (n:Nat) (R:List E) (L:List Int) (w':World):Prop:=af T.F w w'/\∃T',cR w T T'/\Tr n w' T' R L
theorem Tr.decide (h:Tr n w T R L) (l:Int) (hl : -9223372036854775808<=l) :
  Calls Tryz.prog 149 #[Pt T.t,I l] w λe w'=>e=.returned (I (bZ n R l))/\eY w T n (if bZ n R l=0 then R++[⟨l,(L.length+1:Nat), -1⟩] else R) (if bZ n R l=0 then L++[(R.length:Int)] else L) w':=by
 have hs:=h.small;obtain ⟨aH,aP,h1,h2,h3⟩:=h;have mz:=h3.free l;refine (Pg h1 l hl (by rw [iW]; omega) (by omega) (λhz=>?_)).mono λe w' hh=>?_
 ·rw [mz] at hz;have:=gz hz;have:=h2.room this.1 this.2;rw [iW]; omega
 ·rw [mz] at hh;rcases hh with ⟨a,b,k,T',m,hT⟩ | ⟨a,b,k,T',m,hT⟩
  ·exact ⟨b,k,T',m,by rw [if_neg a,if_neg a]; exact ⟨aH,aP,hT,h2,h3⟩⟩
  ·refine ⟨by rw [a]; exact b,k,T',m,?_⟩;rw [if_pos a,if_pos a];have ho:=gz a;refine ⟨_,_,?_,h2.decide ho.1 ho.2,h3.snoc (x:=⟨l,(L.length+1:Nat), -1⟩) h2.own ho.1 ho.2⟩;rw [iW] at hT;have:Trail.lits (R++[⟨l,(L.length+1:Nat), -1⟩])=Trail.lits R++[l]:=by simp [Trail.lits]
   rw [this];exact hT
theorem Tr.mA (h:Tr n w T R L) (l r:Int) (hl : -9223372036854775808<=l) :
  Calls Tryz.prog 169 #[Pt T.t,I l,I r] w λe w'=>e=.returned (I (dK n R l r))/\eY w T n (if dK n R l r=0 then R++[⟨l,L.length,r⟩] else R) L w':=by
 have hs:=h.small;obtain ⟨aH,aP,h1,h2,h3⟩:=h;have mz:=h3.free l;refine (T4 h1 l r hl (by rw [iW]; omega) (λhz=>?_)).mono λe w' hh=>?_
 ·rw [mz] at hz;have:=gz hz;have:=h2.room this.1 this.2;rw [iW]; omega
 ·rw [mz] at hh;rcases hh with ⟨a,b,k,T',m,hT⟩ | ⟨a,a2,b,k,T',m,hT⟩ | ⟨a,a2,b,k,T',m,hT⟩
  ·have e1:dK n R l r=bZ n R l:=by unfold dK; rw [if_neg a]
   exact ⟨by rw [e1]; exact b,k,T',m,by rw [e1,if_neg a]; exact ⟨aH,aP,hT,h2,h3⟩⟩
  ·have e1:dK n R l r=2:=by unfold dK; rw [if_pos a,if_pos a2]
   exact ⟨by rw [e1]; exact b,k,T',m,by rw [e1,if_neg (by decide)]; exact ⟨aH,aP,hT,h2,h3⟩⟩
  ·have e1:dK n R l r=0:=by unfold dK; rw [if_pos a,if_neg (by omega)]
   refine ⟨by rw [e1]; exact b,k,T',m,?_⟩;rw [e1,if_pos rfl];have ho:=gz a;refine ⟨_,_,?_,h2.mA ho.1 ho.2 a2,h3.snoc (x:=⟨l,L.length,r⟩) h2.own ho.1 ho.2⟩;have:Trail.lits (R++[⟨l,L.length,r⟩])=Trail.lits R++[l]:=by simp [Trail.lits]
   rw [this];exact hT
theorem ow {k:Int} {fr:Nat} (h1:∀e∈R.take fr,e.lv<=k) (h2:∀e∈R.drop fr,k<e.lv):cL k R=R.drop fr/\upto k R=R.take fr:=by
 unfold cL upto;constructor
 ·conv=>lhs; rw [<-List.take_append_drop fr R]
  rw [List.filter_append];have e1:(R.take fr).filter (λe=>decide (k<e.lv))=[]:=by
   rw [List.filter_eq_nil_iff]; intro e he; have:=h1 e he; simp; omega
  have e2:(R.drop fr).filter (λe=>decide (k<e.lv))=R.drop fr:=by
   rw [List.filter_eq_self]; intro e he; have:=h2 e he; simpa using this
  rw [e1,e2,List.nil_append]
 ·conv=>lhs; rw [<-List.take_append_drop fr R]
  rw [List.filter_append];have e1:(R.take fr).filter (λe=>decide (e.lv<=k))=R.take fr:=by
   rw [List.filter_eq_self]; intro e he; have:=h1 e he; simpa using this
  have e2:(R.drop fr).filter (λe=>decide (e.lv<=k))=[]:=by
   rw [List.filter_eq_nil_iff]; intro e he; have:=h2 e he; simp; omega
  rw [e1,e2,List.append_nil]
theorem rH (h:St n R L) {k:Int} (hk:(L.length:Int)<=k):cL k R=[]/\upto k R=R:=by
 have:=ow (R:=R) (fr:=R.length) (k:=k) (λe he=>by
  rw [List.take_length] at he; have:=(h.lvl e he).2; omega) (λe he=>by rw [List.drop_length] at he; cases he)
 rwa [List.drop_length,List.take_length] at this
theorem Tr.back (h:Tr n w T R L) {k:Int} (qD:0<=k) (hk:k<=L.length) :
  Calls Tryz.prog 178 #[Pt T.t,I k] w λe w'=>∃p c,e=.returned (.tuple #[.slice p (cL k R).length c,I 0])/\bR w' 3 1 p (cL k R).length c ((Trail.lits (cL k R)).reverse.map I)/\(∀i,ob p i->w.heap.size<=i)/\
   af T.F w w'/\Tr n w' T (upto k R) (L.take k.toNat):=by
 have hs:=h.small;obtain ⟨aH,aP,h1,h2,h3⟩:=h;obtain ⟨m,rfl⟩:∃m:Nat,k=m:=⟨k.toNat,by omega⟩
 rw [Int.toNat_natCast];by_cases hm:m<L.length
 ·obtain ⟨fr,e1,e2,s1,s2,s3⟩:=h2.back m _ (List.getElem?_eq_getElem hm);obtain ⟨a1,a2⟩:=ow s2 s3;refine (Zx h1 hm (by rw [iW]; omega) (by omega) (fr:=fr) (by rw [List.getElem?_eq_getElem hm,e1]) (by rw [iW]; exact e2) (λl hl=>?_) (λl hl=>?_)).mono λe w' ⟨v,he,p,c,hv,hO,hf,gq,hT⟩=>⟨p,c,?_,?_,hf,gq,?_⟩
  ·obtain ⟨x,hx,rfl⟩:=List.mem_map.1 hl;rw [h3.len]; exact h2.own x hx
  ·obtain ⟨x,hx,rfl⟩:=List.mem_map.1 hl;have:=jA (h2.own x hx);omega
  ·have:((Trail.lits R).drop fr).reverse.length=(cL (m:Int) R).length:=by rw [a1,List.length_reverse,List.length_drop,List.length_drop,iW]
   rw [he,hv,this]
  ·have:((Trail.lits R).drop fr).reverse.length=(cL (m:Int) R).length:=by rw [a1,List.length_reverse,List.length_drop,List.length_drop,iW]
   rw [this] at hO;have e3:(Trail.lits R).drop fr=Trail.lits (cL (m:Int) R):=by rw [a1]; unfold Trail.lits; rw [List.map_drop]
   rw [e3] at hO;exact hO
  ·rw [a2];refine ⟨_,_,?_,s1,h3.back h2⟩;have e3:(Trail.lits R).take fr=Trail.lits (R.take fr):=by unfold Trail.lits; rw [List.map_take]
   rw [e3] at hT;exact hT
 ·obtain rfl:m=L.length:=by omega
  obtain ⟨a1,a2⟩:=rH h2 (Int.le_refl _);refine (LS h1 (by omega)).mono λe w' ⟨he,hw⟩=>⟨none,0,?_,?_,(λi ⟨a,hh,_⟩=>by cases hh),by rw [hw]; exact af.refl _ _,?_⟩
  ·rw [a1]; exact he
  ·rw [a1]; exact bR.nil _ _ _
  ·rw [a2,List.take_length,hw]; exact ⟨aH,aP,h1,h2,h3⟩
end
end Trail
namespace Vc
open Go
theorem fI {P:Program} {w:World} {t ty e:TypeId} {sz B:Nat} {z:Value} {p:Option Addr} {n c:Nat} {xs:List Value} {q:Option Addr} {m mc:Nat} {news:List Value}
  {K:Option Addr->Nat->Nat->World->Prop}
  (ht:P.underlying t=some (.slice e)) (Ax:(P.info? e).map (λi=>(i.zero,i.size,i.bytes))=some (some z,sz,B)) (GK:z.cells.size=sz) (vP:0<sz)
  (hO:bR w e sz p n c xs) (hN:ql w sz q m mc news) (h1:∀u∈news,u.oneCell'=true) (WX:n+m<=maxLen) (qq:(n+m)*B<=140737488355328)
  (hk:∀p' c' w',bR w' e sz p' (n+m) c' (xs++news)->((p'=p/\c'=c/\n+m<=c/\af (ob p) w w')\/((∀i,ob p' i->w.heap.size<=i)/\af aq w w'))->K p' (n+m) c' w') :
  ∃(p':Option Addr) (n' c':Nat),∃w':World,(Builtin.append_ #[t,t] ty #[.slice p n c,.slice q m mc]).run P w=.ok (.slice p' n' c') w'/\K p' n' c' w':=by
 obtain ⟨i,hi,cW⟩:=Option.map_eq_some_iff.1 Ax;simp only [Prod.mk.injEq] at cW;obtain ⟨hz,rfl,rfl⟩:=cW;have tT:n+m<=9223372036854775807:=by simp only [maxLen] at WX; omega
 have kd:∀o,af aq w (w.drew.alloc o):=λo=>((af.refl _ w).drew).alloc o;have ny:=hO.len
 -- yf grown row
 have grown:∀(hl:news.length=m*i.size) (jH:Nat),jH<n+m->
   bR (w.drew.alloc (.cells (xs.toArray++news.toArray++Builtin.zeroCells z.cells (grownCap w (n+m) jH e - (n+m))) e)) e i.size (some ⟨w.heap.size,0,none⟩) (n+m) (grownCap w (n+m) jH e) (xs++news):=by
  intro hl jH ho;have bL:=grownCap_ge w (n+m) jH e;have F4:grownCap w (n+m) jH e<=maxLen:=grownCap_le_maxLen w (n+m) jH e WX;refine Or.inr ⟨w.heap.size,(xs.toArray++news.toArray++Builtin.zeroCells z.cells (grownCap w (n+m) jH e - (n+m))).toList,rfl,heap_alloc_new w.drew _,bL,F4,?_,?_⟩
  ·simp only [Array.length_toList,Array.size_append,List.size_toArray,size_zeroCells,GK,ny,hl,<-Nat.add_mul];congr 1;omega
  ·have hlen:(xs++news).length=(n+m)*i.size:=by rw [List.length_append,ny,hl,Nat.add_mul]
   simp only [Array.toList_append];rw [<-hlen];exact List.take_left
 rcases hN with ⟨rfl,rfl,rfl,rfl⟩ | ⟨a,rfl,hl,kZ⟩
 ·-- nothing
  refine ⟨p,n,c,w,?_,hk p c w (by simpa using hO) (Or.inl ⟨rfl,rfl,by have:=hO.le; omega,af.refl _ w⟩)⟩;rcases hO with ⟨rfl,rfl,rfl,rfl⟩ | ⟨g,cs,rfl,hB,O6,F4,vE,rfl⟩
  ·simp [Builtin.append_,run_underlying ht,sizeOf,typeInfo,hi,Builtin.lenOf,Builtin.firstCells,loadCells,loadCellsFrom]
  ·simp [Builtin.append_,run_underlying ht,sizeOf,typeInfo,hi,Builtin.lenOf,Builtin.firstCells,loadCells,loadCellsFrom,O6,storeCells]
 ·rcases hO with ⟨rfl,rfl,rfl,rfl⟩ | ⟨g,cs,rfl,hB,O6,F4,vE,rfl⟩
  ·by_cases hm:m=0
   ·subst hm;have hn:news=[]:=List.eq_nil_of_length_eq_zero (by simpa using hl);subst hn;refine ⟨Option.none,0,0,w,?_,hk Option.none 0 w (by simpa using bR.nil w e i.size) (Or.inl ⟨rfl,rfl,by omega,af.refl _ w⟩)⟩;simp [Builtin.append_,run_underlying ht,sizeOf,typeInfo,hi,Builtin.lenOf,Builtin.firstCells,loadCells,loadCellsFrom]
   ·have hr:=run_append_nil (P:=P) w t ty e i z ht hi hz a m mc news hl kZ (by omega) (by omega) (by have hb:=qq; simp only [Nat.zero_add] at hb; omega);have Bi:=grown hl 0 (by omega);simp only [Nat.zero_add,List.nil_append,Array.empty_append] at Bi hk ⊢;exact ⟨_,_,_,_,hr,hk _ _ _ Bi (Or.inr ⟨λi ⟨a,h,h'⟩=>by cases h; exact Nat.le_of_eq h',kd _⟩)⟩
  ·have xI:(cs.take (n*i.size)).length=n*i.size:=ny;by_cases jM:n+m<=c
   ·have hle:(n+m)*i.size<=c*i.size:=Nat.mul_le_mul_right _ jM;rw [Nat.add_mul] at hle;have GY:n*i.size+news.length<=cs.toArray.size:=by rw [hl,List.size_toArray,vE]; exact hle
    have hr:=run_append_room (P:=P) w t ty e i ht hi g n c cs.toArray hB a m mc news hl kZ h1 jM GY;refine ⟨_,_,_,_,hr,hk _ _ _ (Or.inr ⟨g,cs.take (n*i.size)++news++cs.drop (n*i.size+news.length),rfl,setRow_heap w g cs.toArray _ e _ hB,jM,F4,?_,?_⟩) (Or.inl ⟨rfl,rfl,jM,⟨rfl,rfl,rfl,by simp,λk _ gq=>setRow_other w g k _ (λe=>gq (e ▸ ⟨_,rfl,rfl⟩))⟩⟩)⟩
    ·simp only [List.length_append,xI,List.length_drop,hl];omega
    ·have hlen:(cs.take (n*i.size)++news).length=(n+m)*i.size:=by rw [List.length_append,xI,hl,Nat.add_mul]
     rw [<-hlen];exact List.take_left
   ·have holds:∀j u,(cs.take (n*i.size))[j]?=some u->w.cell? ((⟨g,0,none⟩:Addr).add j)=some u:=λj u hu=>by
     rw [ag,Nat.zero_add,hB.cell];rw [List.getElem?_take] at hu;split at hu
     ·exact hu
     ·cases hu
    have hr:=run_append_grow (P:=P) w t ty e i z ht hi hz ⟨g,0,none⟩ n c (cs.take (n*i.size)) xI holds a m mc news hl kZ (by omega) (by omega) (growslice_fits (by omega) qq);have Bi:=grown hl c (by omega);exact ⟨_,_,_,_,hr,hk _ _ _ Bi (Or.inr ⟨λi ⟨a,h,h'⟩=>by cases h; exact Nat.le_of_eq h',kd _⟩)⟩
theorem T7 {P:Program} {w:World} {t ty e:TypeId} {sz B:Nat} {z:Value} {p:Option Addr} {n c:Nat} {xs:List Value} {q:Option Addr} {m mc:Nat} {news:List Value}
  {K:Option Addr->Nat->Nat->World->Prop}
  (ht:P.underlying t=some (.slice e)) (Ax:(P.info? e).map (λi=>(i.zero,i.size,i.bytes))=some (some z,sz,B)) (GK:z.cells.size=sz) (vP:0<sz)
  (hO:bR w e sz p n c xs) (hN:ql w sz q m mc news) (h1:∀u∈news,u.oneCell'=true) (WX:n+m<=maxLen) (qq:((n+m)+(n+m) / 4+192)*B<=281474976710656)
  (hk:∀p' c' w',bR w' e sz p' (n+m) c' (xs++news)->((p'=p/\c'=c/\n+m<=c/\af (ob p) w w')\/((∀i,ob p' i->w.heap.size<=i)/\af aq w w'))->K p' (n+m) c' w') :
  ∃(p':Option Addr) (n' c':Nat),∃w':World,(Builtin.append_ #[t,t] ty #[.slice p n c,.slice q m mc]).run P w=.ok (.slice p' n' c') w'/\K p' n' c' w':=by
 obtain ⟨i,hi,cW⟩:=Option.map_eq_some_iff.1 Ax;simp only [Prod.mk.injEq] at cW;obtain ⟨hz,rfl,rfl⟩:=cW;have tT:n+m<=9223372036854775807:=by simp only [maxLen] at WX; omega
 have kd:∀o,af aq w (w.drew.alloc o):=λo=>((af.refl _ w).drew).alloc o;have ny:=hO.len
 -- yf grown row
 have grown:∀(hl:news.length=m*i.size) (jH:Nat),jH<n+m->
   bR (w.drew.alloc (.cells (xs.toArray++news.toArray++Builtin.zeroCells z.cells (grownCap w (n+m) jH e - (n+m))) e)) e i.size (some ⟨w.heap.size,0,none⟩) (n+m) (grownCap w (n+m) jH e) (xs++news):=by
  intro hl jH ho;have bL:=grownCap_ge w (n+m) jH e;have F4:grownCap w (n+m) jH e<=maxLen:=grownCap_le_maxLen w (n+m) jH e WX;refine Or.inr ⟨w.heap.size,(xs.toArray++news.toArray++Builtin.zeroCells z.cells (grownCap w (n+m) jH e - (n+m))).toList,rfl,heap_alloc_new w.drew _,bL,F4,?_,?_⟩
  ·simp only [Array.length_toList,Array.size_append,List.size_toArray,size_zeroCells,GK,ny,hl,<-Nat.add_mul];congr 1;omega
  ·have hlen:(xs++news).length=(n+m)*i.size:=by rw [List.length_append,ny,hl,Nat.add_mul]
   simp only [Array.toList_append];rw [<-hlen];exact List.take_left
 rcases hN with ⟨rfl,rfl,rfl,rfl⟩ | ⟨a,rfl,hl,kZ⟩
 ·-- nothing
  refine ⟨p,n,c,w,?_,hk p c w (by simpa using hO) (Or.inl ⟨rfl,rfl,by have:=hO.le; omega,af.refl _ w⟩)⟩;rcases hO with ⟨rfl,rfl,rfl,rfl⟩ | ⟨g,cs,rfl,hB,O6,F4,vE,rfl⟩
  ·simp [Builtin.append_,run_underlying ht,sizeOf,typeInfo,hi,Builtin.lenOf,Builtin.firstCells,loadCells,loadCellsFrom]
  ·simp [Builtin.append_,run_underlying ht,sizeOf,typeInfo,hi,Builtin.lenOf,Builtin.firstCells,loadCells,loadCellsFrom,O6,storeCells]
 ·rcases hO with ⟨rfl,rfl,rfl,rfl⟩ | ⟨g,cs,rfl,hB,O6,F4,vE,rfl⟩
  ·by_cases hm:m=0
   ·subst hm;have hn:news=[]:=List.eq_nil_of_length_eq_zero (by simpa using hl);subst hn;refine ⟨Option.none,0,0,w,?_,hk Option.none 0 w (by simpa using bR.nil w e i.size) (Or.inl ⟨rfl,rfl,by omega,af.refl _ w⟩)⟩;simp [Builtin.append_,run_underlying ht,sizeOf,typeInfo,hi,Builtin.lenOf,Builtin.firstCells,loadCells,loadCellsFrom]
   ·have hr:=run_append_nil (P:=P) w t ty e i z ht hi hz a m mc news hl kZ (by omega) (by omega) (by have hb:=qq; simp only [Nat.zero_add] at hb; exact Nat.le_trans (Nat.mul_le_mul_right _ (by omega)) hb);have Bi:=grown hl 0 (by omega);simp only [Nat.zero_add,List.nil_append,Array.empty_append] at Bi hk ⊢;exact ⟨_,_,_,_,hr,hk _ _ _ Bi (Or.inr ⟨λi ⟨a,h,h'⟩=>by cases h; exact Nat.le_of_eq h',kd _⟩)⟩
  ·have xI:(cs.take (n*i.size)).length=n*i.size:=ny;by_cases jM:n+m<=c
   ·have hle:(n+m)*i.size<=c*i.size:=Nat.mul_le_mul_right _ jM;rw [Nat.add_mul] at hle;have GY:n*i.size+news.length<=cs.toArray.size:=by rw [hl,List.size_toArray,vE]; exact hle
    have hr:=run_append_room (P:=P) w t ty e i ht hi g n c cs.toArray hB a m mc news hl kZ h1 jM GY;refine ⟨_,_,_,_,hr,hk _ _ _ (Or.inr ⟨g,cs.take (n*i.size)++news++cs.drop (n*i.size+news.length),rfl,setRow_heap w g cs.toArray _ e _ hB,jM,F4,?_,?_⟩) (Or.inl ⟨rfl,rfl,jM,⟨rfl,rfl,rfl,by simp,λk _ gq=>setRow_other w g k _ (λe=>gq (e ▸ ⟨_,rfl,rfl⟩))⟩⟩)⟩
    ·simp only [List.length_append,xI,List.length_drop,hl];omega
    ·have hlen:(cs.take (n*i.size)++news).length=(n+m)*i.size:=by rw [List.length_append,xI,hl,Nat.add_mul]
     rw [<-hlen];exact List.take_left
   ·have holds:∀j u,(cs.take (n*i.size))[j]?=some u->w.cell? ((⟨g,0,none⟩:Addr).add j)=some u:=λj u hu=>by
     rw [ag,Nat.zero_add,hB.cell];rw [List.getElem?_take] at hu;split at hu
     ·exact hu
     ·cases hu
    have hr:=run_append_grow (P:=P) w t ty e i z ht hi hz ⟨g,0,none⟩ n c (cs.take (n*i.size)) xI holds a m mc news hl kZ (by omega) (by omega) (growslice_fits_wide (by omega) qq);have Bi:=grown hl c (by omega);exact ⟨_,_,_,_,hr,hk _ _ _ Bi (Or.inr ⟨λi ⟨a,h,h'⟩=>by cases h; exact Nat.le_of_eq h',kd _⟩)⟩
open Go
def Mp (w:World) (r:Nat) (f:List (Int×Int)):Prop:=∃es clock,w.heap[r]?=some (.map es clock)/\es.toList.map (λe=>(e.key,e.val))=f.map λp=>((.int .i64 p.1:Value),(.int .i64 p.2:Value))
def bY (k:Int):List (Int×Int)->Int
 | []=>0
 | p :: f=>if p.1=k then p.2 else bY k f
def gV (k v:Int):List (Int×Int)->List (Int×Int)
 | []=>[(k,v)]
 | p :: f=>if p.1=k then (k,v) :: f else p :: gV k v f
theorem iy (k v j:Int):∀f,bY j (gV k v f)=if j=k then v else bY j f:=by
 intro f;induction f with
 | nil=>simp [gV,bY,eq_comm]
 | cons p f ih=>
  unfold gV;by_cases h:p.1=k
  ·rw [if_pos h];by_cases hj:j=k
   ·simp [bY,hj]
   ·simp [bY,h,hj,Ne.symm hj]
  ·rw [if_neg h];unfold bY;by_cases hp:p.1=j
   ·have:¬j=k:=λe=>h (hp.trans e);rw [if_pos hp,if_pos hp,if_neg this]
   ·rw [if_neg hp,if_neg hp,ih]
def nD (k:Int):List (Int×Int)->Bool
 | []=>false
 | p :: f=>decide (p.1=k) || nD k f
theorem Cs {k v:Int} : ∀{f:List (Int×Int)},nD k f=false->gV k v f=f++[(k,v)]:=by
 intro f;induction f with
 | nil=>intro _; rfl
 | cons p f ih=>
  intro h;have h':p.1≠k/\nD k f=false:=by simpa [nD] using h
  rw [gV,if_neg h'.1,ih h'.2]; rfl
theorem Mp.ax {S:Nat->Prop} {w w':World} {r:Nat} {f:List (Int×Int)} (h:Mp w r f) (hk:af S w w') (hs:¬S r):Mp w' r f:=by
 obtain ⟨es,clock,hb,he⟩:=h;exact ⟨es,clock,by rw [hk.block r (Array.getElem?_eq_some_iff.1 hb).1 hs]; exact hb,he⟩
theorem Mp.aa {w w':World} {r:Nat} {f:List (Int×Int)} (h:Mp w r f) (hk:af aq w w'):Mp w' r f:=h.ax hk λh=>h
theorem Mp.lt {w:World} {r:Nat} {f:List (Int×Int)} (h:Mp w r f):r<w.heap.size:=by
 obtain ⟨es,clock,hb,he⟩:=h;exact (Array.getElem?_eq_some_iff.1 hb).1
theorem uB {P:Program} {t:TypeId} {w:World} {K:Option Nat->World->Prop} (hk:∀r w',r=w.heap.size->Mp w' r []->af aq w w'->K (some r) w') :
  ∃x:Option Nat,∃w1:World,(Instr.makeMap t none).run P w=.ok (.map x) w1/\K x w1:=
 ⟨some w.heap.size,w.alloc (.map #[] 0),by simp [Instr.makeMap],hk _ _ rfl ⟨#[],0,(MapKept.heap_alloc w _).1,rfl⟩ ((af.refl _ w).alloc _)⟩
theorem mD (k:Int):∀(l:List MapEntry) (f:List (Int×Int)) (i:Nat),l.map (λe=>(e.key,e.val))=f.map (λp=>((.int .i64 p.1:Value),(.int .i64 p.2:Value)))->
  (nD k f=false/\Instr.findNow (.int .i64) (.int .i64 k) l i=some none)\/
  (nD k f=true/\∃j,Instr.findNow (.int .i64) (.int .i64 k) l i=some (some (i+j,.int .i64 (bY k f)))/\∃e,l[j]?=some e/\e.key=.int .i64 k/\
   ∀v:Int,(l.modify j λe=>{e with key:=.int .i64 k,val:=.int .i64 v}).map (λe=>(e.key,e.val))=(gV k v f).map λp=>((.int .i64 p.1:Value),(.int .i64 p.2:Value))):=by
 intro l;induction l with
 | nil=>
  intro f i h;cases f with
  | nil=>exact Or.inl ⟨rfl,rfl⟩
  | cons p f=>cases h
 | cons e l ih=>
  intro f i h;cases f with
  | nil=>cases h
  | cons p f=>
   simp only [List.map_cons,List.cons.injEq,Prod.mk.injEq] at h;obtain ⟨⟨hk,hv⟩,h⟩:=h;by_cases hp:p.1=k
   ·refine Or.inr ⟨by simp [nD,hp],0,?_,e,rfl,by rw [hk,hp],λv=>?_⟩
    ·simp [Instr.findNow,hk,Instr.sameNow,hp,hv,bY]
    ·simp [gV,hp,h]
   ·have hs:Instr.sameNow (.int .i64) (.int .i64 k) e.key=some false:=by rw [hk]; simp [Instr.sameNow]; exact λe=>hp e.symm
    have hm:nD k (p :: f)=nD k f:=by simp [nD,hp]
    rcases ih f (i+1) h with ⟨h1,h2⟩ | ⟨h1,j,h2,e',h3,h4,h5⟩
    ·exact Or.inl ⟨by rw [hm]; exact h1,by simp only [Instr.findNow,hs]; exact h2⟩
    ·refine Or.inr ⟨by rw [hm]; exact h1,j+1,?_,e',by simpa using h3,h4,λv=>?_⟩
     ·simp only [Instr.findNow,hs,bY,if_neg hp];rw [h2];congr 3;omega
     ·simp only [gV,if_neg hp,List.modify_succ_cons,List.map_cons,h5 v,hk,hv]
theorem T8 {k:Int} : ∀{f:List (Int×Int)},nD k f=false->bY k f=0:=by
 intro f;induction f with
 | nil=>intro _; rfl
 | cons p f ih=>
  intro h;have h':p.1≠k/\nD k f=false:=by simpa [nD] using h
  rw [bY,if_neg h'.1,ih h'.2]
section
variable {P:Program} {mty kt et:TypeId} {w:World} {r:Nat} {f:List (Int×Int)}
theorem lC {K:Int->World->Prop} {k:Int} (hm:P.underlying mty=some (.map kt et)) (hd:P.underlying kt=some (.int .i64)) (hz:(P.info? et).map (·.zero)=some (some (.int .i64 0))) (h:Mp w r f) (hk:K (bY k f) w) :
  ∃x:Int,∃w':World,(Instr.lookup mty (.map (some r)) (.int .i64 k) false).run P w=.ok (.int .i64 x) w'/\K x w':=by
 obtain ⟨es,clock,hb,he⟩:=h;refine ⟨bY k f,w,?_,hk⟩;have mS:MapKept.IsKey (.int .i64) (.int .i64 k):=rfl;obtain ⟨i,hi,hzi⟩:=Option.map_eq_some_iff.1 hz;have hzv:(zeroValue et).run P w=.ok (.int .i64 0) w:=by
  simp [zeroValue,typeInfo,hi,hzi,Result.andThen]
 rcases mD k es.toList f 0 he with ⟨h1,h2⟩ | ⟨h1,j,h2,_⟩
 ·simp [Instr.lookup,run_underlying hm,MapKept.run_getObj_map hb,MapKept.run_checkKey hd mS,MapKept.run_findKey hd h2,hzv,Result.andThen,T8 h1]
 ·simp [Instr.lookup,run_underlying hm,MapKept.run_getObj_map hb,MapKept.run_checkKey hd mS,MapKept.run_findKey hd h2,Result.andThen]
theorem y8 {K:World->Prop} {k v:Int} (hm:P.underlying mty=some (.map kt et)) (hd:P.underlying kt=some (.int .i64)) (h:Mp w r f) (hk:∀w',Mp w' r (gV k v f)->af (One r) w w'->w'.heap.size=w.heap.size->K w') :
  ∃w':World,(Instr.mapUpdate mty (.map (some r)) (.int .i64 k) (.int .i64 v)).run P w=.ok () w'/\K w':=by
 obtain ⟨es,clock,hb,he⟩:=h;have mS:MapKept.IsKey (.int .i64) (.int .i64 k):=rfl;have kp:∀o,af (One r) w {w with heap:=w.heap.setIfInBounds r o}:=λo=>⟨rfl,rfl,rfl,by simp,λi hi hn=>(MapKept.heap_set hb).2 i hn⟩
 rcases mD k es.toList f 0 he with ⟨h1,h2⟩ | ⟨h1,j,h2,e,h3,h4,h5⟩
 ·refine ⟨{w with heap:=w.heap.setIfInBounds r (.map (es.push {key:=.int .i64 k,val:=.int .i64 v,born:=clock}) (clock+1))},?_,hk _ ⟨_,_,(MapKept.heap_set hb).1,?_⟩ (kp _) (by simp)⟩
  ·simp [Instr.mapUpdate,run_underlying hm,MapKept.run_getObj_map hb,MapKept.run_checkKey hd mS,MapKept.run_findKey hd h2,MapKept.run_setObj_map _ hb,Result.andThen]
  ·have:=Cs (v:=v) h1;rw [this];simp [he]
 ·have hj:es[j]?=some e:=by simpa using h3
  refine ⟨{w with heap:=w.heap.setIfInBounds r (.map (es.modify j λe=>{e with key:=.int .i64 k,val:=.int .i64 v}) clock)},?_,hk _ ⟨_,_,(MapKept.heap_set hb).1,?_⟩ (kp _) (by simp)⟩
  ·simp [Instr.mapUpdate,run_underlying hm,MapKept.run_getObj_map hb,MapKept.run_checkKey hd mS,MapKept.run_findKey hd h2,hj,h4,MapKept.run_keyThatStays mS,MapKept.run_setObj_map _ hb,Result.andThen]
  ·rw [Array.toList_modify];exact h5 v
end
open Go
def Mk (V:Value->Prop) (w:World) (r:Nat) (ks:List Int):Prop:=∃es clock,w.heap[r]?=some (.map es clock)/\es.toList.map (λe=>e.key)=ks.map (λk=>(.int .i64 k:Value))/\∀e∈es.toList,V e.val
theorem Mk.ax {V:Value->Prop} {S:Nat->Prop} {w w':World} {r:Nat} {ks:List Int} (h:Mk V w r ks) (hk:af S w w') (hs:¬S r):Mk V w' r ks:=by
 obtain ⟨es,clock,hb,he⟩:=h;exact ⟨es,clock,by rw [hk.block r (Array.getElem?_eq_some_iff.1 hb).1 hs]; exact hb,he⟩
theorem Mk.aa {V:Value->Prop} {w w':World} {r:Nat} {ks:List Int} (h:Mk V w r ks) (hk:af aq w w'):Mk V w' r ks:=h.ax hk λh=>h
theorem Mk.lt {V:Value->Prop} {w:World} {r:Nat} {ks:List Int} (h:Mk V w r ks):r<w.heap.size:=by
 obtain ⟨es,clock,hb,he⟩:=h;exact (Array.getElem?_eq_some_iff.1 hb).1
theorem LX {V:Value->Prop} {P:Program} {t:TypeId} {w:World} {K:Option Nat->World->Prop} (hk:∀r w',r=w.heap.size->Mk V w' r []->af aq w w'->K (some r) w') :
  ∃x:Option Nat,∃w1:World,(Instr.makeMap t none).run P w=.ok (.map x) w1/\K x w1:=
 ⟨some w.heap.size,w.alloc (.map #[] 0),by simp [Instr.makeMap],hk _ _ rfl ⟨#[],0,(MapKept.heap_alloc w _).1,rfl,λe h=>by simp at h⟩ ((af.refl _ w).alloc _)⟩
theorem ox (k:Int):∀(l:List MapEntry) (ks:List Int) (i:Nat),l.map (λe=>e.key)=ks.map (λk=>(.int .i64 k:Value))->
  (k∉ks/\Instr.findNow (.int .i64) (.int .i64 k) l i=some none)\/
  (k∈ks/\∃j e,Instr.findNow (.int .i64) (.int .i64 k) l i=some (some (i+j,e.val))/\l[j]?=some e/\e.key=.int .i64 k/\(l.eraseIdx j).map (λe=>e.key)=(ks.erase k).map (λk=>(.int .i64 k:Value))):=by
 intro l;induction l with
 | nil=>
  intro ks i h;cases ks with
  | nil=>exact Or.inl ⟨by simp,rfl⟩
  | cons p f=>cases h
 | cons e l ih=>
  intro ks i h;cases ks with
  | nil=>cases h
  | cons p ks=>
   simp only [List.map_cons,List.cons.injEq] at h;obtain ⟨hk,h⟩:=h;by_cases hp:p=k
   ·subst hp;refine Or.inr ⟨by simp,0,e,?_,rfl,hk,?_⟩
    ·simp [Instr.findNow,hk,Instr.sameNow]
    ·simp [h]
   ·have hs:Instr.sameNow (.int .i64) (.int .i64 k) e.key=some false:=by rw [hk]; simp [Instr.sameNow]; exact λe=>hp e.symm
    rcases ih ks (i+1) h with ⟨h1,h2⟩ | ⟨h1,j,e',h2,h3,h4,h5⟩
    ·exact Or.inl ⟨by simp [h1,Ne.symm hp],by simp only [Instr.findNow,hs]; exact h2⟩
    ·refine Or.inr ⟨by simp [h1],j+1,e',?_,by simpa using h3,h4,?_⟩
     ·simp only [Instr.findNow,hs];rw [h2];congr 3;omega
     ·rw [List.erase_cons_tail (by simpa using hp)];simp [h5,hk]
section
variable {V:Value->Prop} {P:Program} {mty kt et:TypeId} {w:World} {r:Nat} {ks:List Int}
theorem Pk {z:Value} {K:Value->Bool->World->Prop} {k:Int} (hm:P.underlying mty=some (.map kt et)) (hd:P.underlying kt=some (.int .i64)) (hz:(P.info? et).map (·.zero)=some (some z)) (h:Mk V w r ks) (hk:∀v,(k∈ks->V v)->(k∉ks->v=z)->K v (decide (k∈ks)) w) :
  ∃v:Value,∃b:Bool,∃w':World,(Instr.lookup mty (.map (some r)) (.int .i64 k) true).run P w=.ok (.tuple #[v,.bool b]) w'/\K v b w':=by
 obtain ⟨es,clock,hb,he,hv⟩:=h;have mS:MapKept.IsKey (.int .i64) (.int .i64 k):=rfl;obtain ⟨i,hi,hzi⟩:=Option.map_eq_some_iff.1 hz;have hzv:(zeroValue et).run P w=.ok z w:=by
  simp [zeroValue,typeInfo,hi,hzi,Result.andThen]
 rcases ox k es.toList ks 0 he with ⟨h1,h2⟩ | ⟨h1,j,e,h2,h3,_⟩
 ·refine ⟨z,false,w,?_,?_⟩
  ·simp [Instr.lookup,run_underlying hm,MapKept.run_getObj_map hb,MapKept.run_checkKey hd mS,MapKept.run_findKey hd h2,hzv,Result.andThen]
  ·have:=hk z (λh=>absurd h h1) (λ_=>rfl);rwa [decide_eq_false h1] at this
 ·refine ⟨e.val,true,w,?_,?_⟩
  ·simp [Instr.lookup,run_underlying hm,MapKept.run_getObj_map hb,MapKept.run_checkKey hd mS,MapKept.run_findKey hd h2,Result.andThen]
  ·have:=hk e.val (λ_=>hv e (List.mem_of_getElem? h3)) (λh=>absurd h1 h);rwa [decide_eq_true h1] at this
theorem ZB {v:Value} {K:World->Prop} {k:Int} (hm:P.underlying mty=some (.map kt et)) (hd:P.underlying kt=some (.int .i64)) (h:Mk V w r ks) (hn:k∉ks) (hv:V v) (hk:∀w',Mk V w' r (ks++[k])->af (One r) w w'->w'.heap.size=w.heap.size->K w') :
  ∃w':World,(Instr.mapUpdate mty (.map (some r)) (.int .i64 k) v).run P w=.ok () w'/\K w':=by
 obtain ⟨es,clock,hb,he,hV⟩:=h;have mS:MapKept.IsKey (.int .i64) (.int .i64 k):=rfl;have kp:∀o,af (One r) w {w with heap:=w.heap.setIfInBounds r o}:=λo=>⟨rfl,rfl,rfl,by simp,λi hi hn=>(MapKept.heap_set hb).2 i hn⟩
 rcases ox k es.toList ks 0 he with ⟨h1,h2⟩ | ⟨h1,_⟩
 ·refine ⟨{w with heap:=w.heap.setIfInBounds r (.map (es.push {key:=.int .i64 k,val:=v,born:=clock}) (clock+1))},?_,hk _ ⟨_,_,(MapKept.heap_set hb).1,?_,λe he=>?_⟩ (kp _) (by simp)⟩
  ·simp [Instr.mapUpdate,run_underlying hm,MapKept.run_getObj_map hb,MapKept.run_checkKey hd mS,MapKept.run_findKey hd h2,MapKept.run_setObj_map _ hb,Result.andThen]
  ·simp [he]
  ·rw [Array.toList_push] at he;rcases List.mem_append.1 he with he | he
   ·exact hV e he
   ·rw [List.mem_singleton.1 he]; exact hv
 ·exact absurd h1 hn
theorem T9 {ty:TypeId} {K:World->Prop} {k:Int} (hm:P.underlying mty=some (.map kt et)) (hd:P.underlying kt=some (.int .i64)) (h:Mk V w r ks) (hk:∀w',Mk V w' r (ks.erase k)->af (One r) w w'->w'.heap.size=w.heap.size->K w') :
  ∃w':World,(Builtin.delete_ #[mty,kt] ty #[.map (some r),.int .i64 k]).run P w=.ok (.tuple #[]) w'/\K w':=by
 obtain ⟨es,clock,hb,he,hV⟩:=h;have mS:MapKept.IsKey (.int .i64) (.int .i64 k):=rfl;have kp:∀o,af (One r) w {w with heap:=w.heap.setIfInBounds r o}:=λo=>⟨rfl,rfl,rfl,by simp,λi hi hn=>(MapKept.heap_set hb).2 i hn⟩
 rcases ox k es.toList ks 0 he with ⟨h1,h2⟩ | ⟨h1,j,e,h2,h3,h4,h5⟩
 ·refine ⟨{w with heap:=w.heap.setIfInBounds r (.map es clock)},?_,hk _ ⟨es,clock,(MapKept.heap_set hb).1,by rw [List.erase_of_not_mem h1]; exact he,hV⟩ (kp _) (by simp)⟩;simp [Builtin.delete_,run_underlying hm,MapKept.run_getObj_map hb,MapKept.run_checkKey hd mS,MapKept.run_findKey hd h2,MapKept.run_setObj_map _ hb,Result.andThen]
 ·refine ⟨{w with heap:=w.heap.setIfInBounds r (.map (es.eraseIdxIfInBounds j) clock)},?_,hk _ ⟨_,_,(MapKept.heap_set hb).1,?_,λx hx=>?_⟩ (kp _) (by simp)⟩
  ·simp [Builtin.delete_,run_underlying hm,MapKept.run_getObj_map hb,MapKept.run_checkKey hd mS,MapKept.run_findKey hd h2,MapKept.run_setObj_map _ hb,Result.andThen]
  ·have iX:(es.eraseIdxIfInBounds j).toList=es.toList.eraseIdx j:=by
    rw [Array.eraseIdxIfInBounds];split
    ·rw [Array.toList_eraseIdx]
    ·rename_i hn;rw [List.eraseIdx_of_length_le (by simpa using hn)]
   rw [iX]; exact h5
  ·have iX:(es.eraseIdxIfInBounds j).toList=es.toList.eraseIdx j:=by
    rw [Array.eraseIdxIfInBounds];split
    ·rw [Array.toList_eraseIdx]
    ·rename_i hn;rw [List.eraseIdx_of_length_le (by simpa using hn)]
   rw [iX] at hx;exact hV x ((List.eraseIdx_sublist ..).subset hx)
end
end Vc
namespace bt
open Go Vc
abbrev J (n:Int):Value:=.int .i64 n
abbrev Sl:=Option Addr×Nat×Nat
def sv (x:Sl):Value:=.slice x.1 x.2.1 x.2.2
theorem bg {α:Type} {l:List α} {k:Nat} (h:k<l.length):∃x,l[k]?=some x:=⟨_,List.getElem?_eq_getElem h⟩
theorem aO {w:World} {e:TypeId} {p:Option Addr} {n c:Nat} {ys:List Int} (h:bR w e 1 p n c (ys.map J)):ys.length=n:=by
 have:=h.len; simpa using this
theorem aA (i:Nat) (h:i<4611686018427387904):IntKind.wrap .i64 ((i:Int)+1)=((i+1:Nat):Int):=by rw [IntKind.wrap_i64]; omega
theorem ai6 {w:World} {g:Sl} {ys:List Int} {v:Int} {K:Option Addr->Nat->Nat->World->Prop} (hO:bR w 3 1 g.1 g.2.1 g.2.2 (ys.map J)) (hs:g.2.1<17592186044416)
  (hk:∀g':Sl,∀w',g'.2.1=g.2.1+1->bR w' 3 1 g'.1 g'.2.1 g'.2.2 ((ys++[v]).map J)->((g'.1=g.1/\g'.2.2=g.2.2/\af (ob g.1) w w')\/((∀i,ob g'.1 i->w.heap.size<=i)/\af aq w w'))->K g'.1 g'.2.1 g'.2.2 w') :
  cg w [J v] 3 λb w7=>∃(p':Option Addr) (n' c':Nat),∃w':World,(Builtin.append_ #[59,59] 59 #[.slice g.1 g.2.1 g.2.2,.slice (some ⟨b,0,none⟩) 1 1]).run Tryz.prog w7=.ok (.slice p' n' c') w'/\K p' n' c' w':=by
 refine aD λb w7 hb7 h7 k7=>?_;have z7:=k7.size;refine fI (e:=3) (sz:=1) (z:=J 0) (B:=8) Tryz.underlying59 (by kernel_rfl) rfl (by omega) (hO.aa k7) h7.kU (λu hu=>?_) (by simp only [maxLen]; omega) (by omega) λp' c' w' pT hd=>?_
 ·simp only [List.mem_singleton] at hu; subst hu; rfl
 ·refine hk (p',g.2.1+1,c') w' rfl (by simpa using pT) ?_;rcases hd with ⟨e1,e2,_,k⟩ | ⟨e1,k⟩
  ·exact Or.inl ⟨e1,e2,(k7.none).trans k λ_ _ h=>h⟩
  ·exact Or.inr ⟨λi hi=>by have:=e1 i hi; omega,k7.ak k⟩
end bt
namespace bt
open Go Vc T
structure cQ (w:World) (p:Option Addr) (n:Nat) (cs:List Int):Prop where
 len:cs.length=n
 cell:∀(i:Nat) (x:Int),cs[i]?=some x->∃a,p=some a/\w.cell? (a.add i)=some (J x)
theorem cQ.ax {S:Nat->Prop} {w w':World} {p:Option Addr} {n:Nat} {cs:List Int} (h:cQ w p n cs) (hk:af S w w') (hs:∀i,ob p i->¬S i):cQ w' p n cs:=
 ⟨h.len,λi x hx=>by
  obtain ⟨a,e,hc⟩:=h.cell i x hx;refine ⟨a,e,hk.cell hc λh=>hs _ ⟨a,e,rfl⟩ ?_⟩;have:(a.add i).block=a.block:=by unfold Addr.add; split<;>rfl
  rwa [this] at h⟩
theorem cQ.aa {w w':World} {p:Option Addr} {n:Nat} {cs:List Int} (h:cQ w p n cs) (hk:af aq w w'):cQ w' p n cs:=h.ax hk λ_ _ h=>h
theorem cQ.ix {w:World} {p:Option Addr} {n:Nat} {cs:List Int} {i:Nat} {K:Addr->Prop} (h:cQ w p n cs) (h1:i<n) (hk:∀a x,cs[i]?=some x->w.cell? a=some (J x)->K a):cr p n (i:Int) 1 K:=by
 have hl:=h.len;obtain ⟨x,hx⟩:=bg (show i<cs.length by omega);obtain ⟨a,rfl,hc⟩:=h.cell i x hx;refine ⟨by omega,by omega,?_⟩;show K _;rw [Nat.mul_one,Int.toNat_natCast];exact hk _ x hx hc
theorem aL {w:World} {p:Option Addr} {n c:Nat} {xs:List Int} (h:bR w 3 1 p n c (xs.map J)):cQ w p n xs:=by
 have hl:=aO h;refine ⟨hl,λi x hx=>?_⟩;have hi:=(List.getElem?_eq_some_iff.1 hx).1;rcases h with ⟨_,rfl,_,_⟩ | ⟨b,cs,rfl,hB,h1,h2,h3,h4⟩
 ·omega
 ·refine ⟨_,rfl,?_⟩;rw [ag,Nat.zero_add,hB.cell];have:(cs.take (n*1))[i]?=some (J x):=by rw [h4,List.getElem?_map,hx]; rfl
  rw [List.getElem?_take,if_pos (by omega)] at this;exact this
theorem aB {cs:List Int} {i:Nat} {x:Int} (hx:cs[i]?=some x):cs.take (i+1)=cs.take i++[x]:=by
 rw [List.take_add_one,hx]; rfl
def mE (w:World) (xs:List Int) (v:Value) (w':World):Prop:=∃p c,v=.slice p xs.length c/\bR w' 3 1 p xs.length c (xs.map J)/\(∀i,ob p i->w.heap.size<=i)/\af aq w w'
structure AG (w0 w:World) (p:Option Addr) (m c:Nat) (xs:List Int):Prop where
 own:bR w 3 1 p m c (xs.map J)
 new:∀i,ob p i->w0.heap.size<=i
 ax:af aq w0 w
theorem AG.nil (w:World):AG w w none 0 0 []:=⟨bR.nil _ _ _,(λi ⟨a,h,_⟩=>by cases h),af.refl _ _⟩
theorem AG.len {w0 w:World} {p:Option Addr} {m c:Nat} {xs:List Int} (h:AG w0 w p m c xs):xs.length=m:=aO h.own
theorem AG.aa {w0 w w1:World} {p:Option Addr} {m c:Nat} {xs:List Int} (h:AG w0 w p m c xs) (hk:af aq w w1):AG w0 w1 p m c xs:=⟨h.own.aa hk,h.new,h.ax.ak hk⟩
theorem AG.app {w0 w:World} {p:Option Addr} {m c:Nat} {xs:List Int} {v:Int} {K:Option Addr->Nat->Nat->World->Prop} (h:AG w0 w p m c xs) (hs:m<17592186044416)
  (hk:∀p' c' w',AG w0 w' p' (m+1) c' (xs++[v])->K p' (m+1) c' w') :
  cg w [J v] 3 λb w7=>∃(p':Option Addr) (n' c':Nat),∃w':World,(Builtin.append_ #[59,59] 59 #[.slice p m c,.slice (some ⟨b,0,none⟩) 1 1]).run Tryz.prog w7=.ok (.slice p' n' c') w'/\K p' n' c' w':=by
 refine ai6 (g:=(p,m,c)) h.own hs λg' w' e1 hO hd=>?_;simp only [] at e1 hd;rw [e1] at hO ⊢;refine hk g'.1 g'.2.2 w' ⟨hO,λi hi=>?_,?_⟩
 ·rcases hd with ⟨e,_,_⟩ | ⟨e,_⟩
  ·rw [e] at hi; exact h.new i hi
  ·have:=e i hi; have:=h.ax.size; omega
 ·rcases hd with ⟨_,_,k⟩ | ⟨_,k⟩
  ·exact h.ax.trans k λi hi hh=>by have:=h.new i hh; omega
  ·exact h.ax.ak k
theorem AG.done {w0 w:World} {p:Option Addr} {m c:Nat} {xs:List Int} (h:AG w0 w p m c xs):mE w0 xs (.slice p m c) w:=by
 have hl:=h.len;subst hl;exact ⟨p,c,rfl,h.own,h.new,h.ax⟩
section
variable {w:World} {p:Option Addr} {n c:Nat} {cs:List Int}
theorem copy (h:cQ w p n cs) (hn:n<=17592186044416):Calls Tryz.prog 89 #[.slice p n c] w λe w'=>∃v,e=.returned v/\mE w cs v w':=by
 refine LJ p n c w (mE w cs) ?_;unfold V89;have hlen:=h.len;refine bX (λs w1=>∃i:Nat,s.2.1=i/\i<=n/\s.1.2.1=i/\AG w w1 s.1.1 s.1.2.1 s.1.2.2 (cs.take i)) (λs _=>(n - s.2.1).toNat) ⟨0,rfl,Nat.zero_le _,rfl,AG.nil w⟩ ?_;rintro ⟨⟨q,m,d⟩,i',⟨⟩⟩ w1 ⟨i,rfl,hi,hm,hG⟩;simp only [] at hm hG ⊢;subst hm;refine aF (λaM=>?_) λbL=>?_
 ·have aM:m<n:=by simpa using aM
  refine (h.aa hG.ax).ix aM λa x hx ha=>ah ha ?_;rw [aA m (by omega)];exact hG.app (by omega) λp' c' w' hG'=>⟨⟨m+1,rfl,aM,rfl,by rw [aB hx]; exact hG'⟩,by omega⟩
 ·have bL:m=n:=by simp at bL; omega
  subst bL;rw [<-hlen,List.take_length] at hG;rw [<-hlen];exact hG.done
theorem same {q:Option Addr} {m d:Nat} {ys:List Int} (hx:cQ w p n cs) (hy:cQ w q m ys) (hn:n<=17592186044416) :
  Calls Tryz.prog 81 #[.slice p n c,.slice q m d] w λe w'=>e=.returned (.bool (decide (cs=ys)))/\af aq w w':=by
 refine (LK p n c q m d w (λv w'=>v=.bool (decide (cs=ys))/\af aq w w') ?_).mono λe w' ⟨v,he,hv,hk⟩=>⟨by rw [he,hv],hk⟩
 unfold V81;have lx:=hx.len;have ly:=hy.len;refine aF (λh=>?_) λh=>?_
 ·have h:¬n=m:=by simp at h; omega
  refine ⟨?_,af.refl _ _⟩;congr 1;symm;rw [decide_eq_false_iff_not];intro e;rw [e] at lx; omega
 have h:n=m:=by simp at h; omega
 subst h;refine bX (λs w1=>∃i:Nat,s.1=i/\i<=n/\cs.take i=ys.take i/\af aq w w1) (λs _=>(n - s.1).toNat) ⟨0,rfl,Nat.zero_le _,rfl,af.refl _ _⟩ ?_;rintro ⟨i',⟨⟩⟩ w1 ⟨i,rfl,hi,heq,hk⟩;simp only [];refine aF (λaM=>?_) λbL=>?_
 ·have aM:i<n:=by simpa using aM
  refine (hx.aa hk.drew).ix aM λa x lU ha=>ah ha ((hy.aa hk.drew).ix aM λb y oy hb=>ah hb ?_);rw [aA i (by omega)];refine aF (λbz=>⟨?_,hk.drew⟩) λhe=>?_
  ·have bz:¬x=y:=by simpa using bz
   congr 1;symm;rw [decide_eq_false_iff_not];intro e;rw [e,oy] at lU;injection lU with lU;exact bz lU.symm
  ·have he:x=y:=by simpa using he
   subst he;exact ⟨⟨i+1,rfl,aM,by rw [aB lU,aB oy,heq],hk.drew⟩,by omega⟩
 ·have bL:i=n:=by simp at bL; omega
  subst bL;refine ⟨?_,hk⟩;congr 1;symm;rw [decide_eq_true_eq];rw [<-lx,List.take_length,lx,<-ly,List.take_length] at heq;exact heq
end
end bt
namespace N_
open Go Vc Go.Shelf
abbrev J (n:Int):Value:=.int .i64 n
def ren:Ren where
 f:=fun
  | 6=>96
  | 14=>125
  | 15=>126
  | 20=>158
  | 21=>159
  | 22=>160
  | 23=>161
  | 24=>162
  | 25=>163
  | 26=>164
  | 27=>165
  | 28=>166
  | 29=>127
  | 46=>191
  | 47=>192
  | 48=>193
  | 49=>194
  | 50=>195
  | 57=>205
  | _=>0
 t:=fun
  | 0=>0
  | 3=>3
  | 4=>4
  | 5=>5
  | 9=>9
  | 22=>59
  | 24=>3
  | 25=>95
  | 39=>189
  | 45=>211
  | 46=>212
  | 50=>171
  | 53=>218
  | 55=>191
  | 66=>234
  | 70=>238
  | 76=>251
  | 77=>249
  | _=>0
 g:=id
noncomputable def nam (k : FuncId) : String := match Tryz.prog.funcs[k]? with | some f => f.name | none => ""
theorem bears {k : FuncId} {B : Func} (h : (nam k == "runtime.NumGoroutine") = false) (h' : Tryz.prog.funcs[k]? = some { B with name := nam k }) : Bears Tryz.prog k B := ⟨_, h, h'⟩
theorem lays:SlLaysF.n6 Tryz.prog ren:=by
 constructor<;>first | kernel_rfl | exact bears (by kernel_rfl) (by kernel_rfl) | (intro w; kernel_rfl)
theorem okS:br Tryz.prog 96=true:=by kernel_rfl
theorem okL:br Tryz.prog 127=true:=by kernel_rfl
theorem adv {k:FuncId} {ix:Int->Int} (hk:br Tryz.prog k=true) (hc:∀x y w,Calls Tryz.prog k #[J x,J y] w λe w'=>e=.returned (J (ix x - ix y))/\w'=w)
  {w:World} {p:Option Addr} {n c:Nat} {cs:List Int} (hn:n<=1152921504606846976) (h:bR w 3 1 p n c (cs.map J)) :
  Calls Tryz.prog 96 #[.slice p n c,.func (.func k) #[] #[]] w λe w'=>e=.returned (.tuple #[])/\
   ∃z:List Int,bR w' 3 1 p n c (z.map J)/\z.Perm cs/\(∀(i j:Nat) (x y:Int),i<j->z[i]?=some x->z[j]?=some y->ix x<=ix y)/\af (ob p) w w':=by
 rcases h with ⟨rfl,rfl,rfl,he⟩ | ⟨b,L,rfl,hB,O6,hc2,hL,he⟩
 ·refine (AnyF.slices_SortFunc_none {lays with} none 0 _ w).mono λe w' ⟨h1,h2⟩=>⟨h1,[],?_,?_,?_,?_⟩
  ·exact Or.inl ⟨rfl,rfl,rfl,rfl⟩
  ·rw [List.map_eq_nil_iff.1 he]
  ·intro i j x y _ h; cases h
  ·rw [h2]; exact af.refl _ _
 have hl:cs.length=n:=by have:=congrArg List.length he; simp at this; omega
 have hH:Go.Sort.Holds J w b 0 cs.toArray:=λj hj=>by
  refine ⟨?_,hB.frozen _⟩;have hj:j<cs.length:=hj;rw [Nat.zero_add,hB.cell];have h2:(L.take (n*1))[j]?=(cs.map J)[j]?:=by rw [he]
  rw [List.getElem?_take,if_pos (by omega),List.getElem?_map,List.getElem?_eq_getElem hj] at h2;rw [h2];show some (J cs[j])=some (J cs.toArray[j]!);rw [getElem!_pos _ _ (by simpa using hj)];rfl
 have key:=Any.slices_SortFunc lays J (λ_=>rfl) (λx y=>ix x - ix y) ⟨λx=>by simp [ltOf],λx y z=>by simp only [ltOf,decide_eq_true_eq]; omega,λx y z=>by simp only [ltOf,decide_eq_false_iff_not]; omega⟩ k #[] b 0 c cs.toArray w
  (kP hk) (λm os dk hd x y=>(hc x y _).mono λe w' ⟨h1,h2⟩=>⟨h1,0,#[],by rw [h2]; simp [World.drewN]⟩) hH hB.lt (by simp; omega)
 rw [show cs.toArray.size=n from hl] at key;refine key.mono λe w' ⟨h1,d,m,os,⟨p1,_,p3⟩,hs,hw⟩=>⟨h1,d.toList,?_,?_,?_,?_⟩
 ·have vP:d.size=n:=p1.trans hl;refine Or.inr ⟨b,d.toList.map J++L.drop n,rfl,?_,O6,hc2,?_,?_⟩
  ·unfold b_ at hB ⊢;rw [hw];have hb:=(Array.getElem?_eq_some_iff.1 hB).1;show ((w.heap.modify b (Go.Sort.onCells (Go.Sort.putCells J 0 d)))++os)[b]?=_;rw [Array.getElem?_append_left (by simpa using hb),Array.getElem?_modify,if_pos rfl,hB];simp only [Option.map_some,Go.Sort.onCells,Go.Sort.putCells];congr 2;apply Array.ext_getElem?;intro i;simp only [Array.getElem?_mapIdx,List.getElem?_toArray,List.getElem?_append,List.length_map,Array.length_toList,vP,List.getElem?_map,Array.getElem?_toList,List.getElem?_drop,Nat.sub_zero,Nat.zero_add,Nat.zero_le,true_and];by_cases hi:i<n
   ·rw [if_pos hi,List.getElem?_eq_getElem (by omega:i<L.length),Option.map_some,if_pos hi,Array.getElem?_eq_getElem (by omega:i<d.size),getElem!_pos d i (by omega)]; rfl
   ·rw [if_neg hi,show n+(i - n)=i by omega];cases L[i]?<;>simp [hi]
  ·simp [vP]; omega
  ·rw [List.take_append_of_le_length (by simp [vP])];rw [List.take_of_length_le (by simp [vP])]
 ·have:=p3;have e1:d.extract 0 n=d:=by rw [<-p1.trans hl]; simp
  have e2:cs.toArray.extract 0 n=cs.toArray:=by rw [<-hl]; simp
  rw [e1,e2] at this;exact this
 ·intro i j x y oa hx hy;have hj:=(List.getElem?_eq_some_iff.1 hy)
  have hi:=(List.getElem?_eq_some_iff.1 hx)
  obtain ⟨hj1,rfl⟩:=hj;obtain ⟨hi1,rfl⟩:=hi;have hjs:j<d.size:=by simpa using hj1
  have his:i<d.size:=by simpa using hi1
  have:=hs i j (Nat.zero_le _) oa (by have:=p1.trans hl; omega);rw [getElem!_pos d i his,getElem!_pos d j hjs] at this;simp only [ltOf,decide_eq_false_iff_not] at this;simp only [Array.getElem_toList];omega
 ·rw [hw];refine ⟨rfl,rfl,rfl,?_,λi hi bz=>?_⟩
  ·show w.heap.size<=((w.heap.modify b (Go.Sort.onCells (Go.Sort.putCells J 0 d)))++os).size;simp
  ·show ((w.heap.modify b (Go.Sort.onCells (Go.Sort.putCells J 0 d)))++os)[i]?=_;rw [Array.getElem?_append_left (by simpa using hi),Array.getElem?_modify,if_neg (λq=>bz ⟨_,rfl,q⟩)]
end N_
namespace dw
open Go Vc T
open bt (cQ aL aA bg aO aB mE AG)
abbrev J (n:Int):Value:=.int .i64 n
def fl (l:Int):Bool:=decide (l≠0)&&(decide (-1048576<=l)&&decide (l<=1048576))
theorem bx {l:Int} : fl l=true↔l≠0/\ -1048576<=l/\l<=1048576:=by
 unfold fl;simp only [Bool.and_eq_true,decide_eq_true_eq]
def idx (l:Int):Int:=if l<0 then -2*l - 1 else 2*l - 2
theorem cO {a b:Int} (ha:fl a=true) (hb:fl b=true) (h:idx a=idx b):a=b:=by
 have:=bx.1 ha;have:=bx.1 hb;unfold idx at h;split at h<;>split at h<;>omega
theorem bJ {a:Int} (ha:fl a=true):0<=idx a/\idx a<=2097152:=by
 have:=bx.1 ha;unfold idx;split<;>omega
def sY (L:List Int):Prop:=L.Pairwise λa b=>idx a<idx b
structure Td (M:Int->Prop) (L:List Int):Prop where
 S5:sY L
 mem:∀x,x∈L↔M x/\fl x=true
theorem Pn:∀{L L':List Int},sY L->sY L'->(∀x∈L,fl x=true)->(∀x,x∈L↔x∈L')->L=L':=by
 intro L;induction L with
 | nil=>
  intro L' _ _ _ h;cases L' with
  | nil=>rfl
  | cons b s=>have:=(h b).2 (by simp); cases this
 | cons a t ih=>
  intro L' h1 h2 hf h;cases L' with
  | nil=>have:=(h a).1 (by simp); cases this
  | cons b s=>
   have Hp:=List.pairwise_cons.1 h1;have S6:=List.pairwise_cons.1 h2;have hab:a=b:=by
    have ha:=(h a).1 (by simp);have hb:=(h b).2 (by simp);rcases List.mem_cons.1 ha with e | ha
    ·exact e
    rcases List.mem_cons.1 hb with e | hb
    ·exact e.symm
    have:=Hp.1 b hb;have:=S6.1 a ha;omega
   subst hab;congr 1;refine ih Hp.2 S6.2 (λx hx=>hf x (by simp [hx])) λx=>⟨λhx=>?_,λhx=>?_⟩
   ·rcases List.mem_cons.1 ((h x).1 (by simp [hx])) with e | jG
    ·have:=Hp.1 x hx; rw [e] at this; omega
    ·exact jG
   ·rcases List.mem_cons.1 ((h x).2 (by simp [hx])) with e | jG
    ·have:=S6.1 x hx; rw [e] at this; omega
    ·exact jG
theorem Td.uniq {M M':Int->Prop} {L L':List Int} (h:Td M L) (h':Td M' L') (hm:∀x,fl x=true->(M x↔M' x)):L=L':=
 Pn h.S5 h'.S5 (λx hx=>((h.mem x).1 hx).2) λx=>by
  rw [h.mem,h'.mem];exact ⟨λ⟨a,b⟩=>⟨(hm x b).1 a,b⟩,λ⟨a,b⟩=>⟨(hm x b).2 a,b⟩⟩
theorem Td.all {M:Int->Prop} {L:List Int} (h:Td M L):∀x∈L,fl x=true:=λx hx=>((h.mem x).1 hx).2
theorem Ef {L:List Int} {x:Int} (h:sY L) (hx:∀a∈L,idx a<idx x):sY (L++[x]):=by
 unfold sY;rw [List.pairwise_append];exact ⟨h,by simp,λa ha b hb=>by simp at hb; subst hb; exact hx a ha⟩
theorem ZC {L:List Int} (h:sY L) {i j:Nat} {a b:Int} (hi:L[i]?=some a) (hj:L[j]?=some b) (oa:i<j):idx a<idx b:=by
 have h1:=(List.getElem?_eq_some_iff.1 hi)
 have h2:=(List.getElem?_eq_some_iff.1 hj)
 obtain ⟨h1,rfl⟩:=h1;obtain ⟨h2,rfl⟩:=h2;exact List.pairwise_iff_getElem.1 h i j h1 h2 oa
def qG (w:World) (v0:Value) (v:Value) (w':World):Prop:=v=v0/\af aq w w'
theorem cZ {k:FuncId} {args:Array Value} {w:World} {v0:Value} (h:Calls Tryz.prog k args w λe w'=>∃v,e=.returned v/\qG w v0 v w'):Calls Tryz.prog k args w λe w'=>e=.returned v0/\af aq w w':=
 h.mono λe w' ⟨v,he,hv,hk⟩=>⟨by rw [he,hv],hk⟩
section
variable {w:World} {p:Option Addr} {n c:Nat} {cs:List Int}
theorem JH (l:Int) (w:World):Calls Tryz.prog 95 #[J l] w λe w'=>e=.returned (.bool (fl l))/\w'=w:=by
 refine (vX l w (λv w'=>v=.bool (fl l)/\w'=w) ?_).mono λe w' ⟨v,he,hv,hk⟩=>⟨by rw [he,hv],hk⟩
 unfold V95;refine ⟨?_,rfl⟩;congr 1;rw [Bool.eq_iff_iff,bx];simp [and_assoc]
theorem cD (l:Int):Calls Tryz.prog 95 #[J l] w λe w'=>e=.returned (.bool (fl l))/\af aq w w':=(JH l w).mono λe w' ⟨h,k⟩=>⟨h,k ▸ af.refl _ _⟩
def ix (l:Int):Int:=if fl l=true then idx l else -1
theorem Hq (l:Int) (w:World):Calls Tryz.prog 99 #[J l] w λe w'=>e=.returned (J (ix l))/\w'=w:=by
 refine (LH l w (λv w'=>v=J (ix l)/\w'=w) ?_).mono λe w' ⟨v,he,hv,hk⟩=>⟨by rw [he,hv],hk⟩
 unfold V99;refine az Ea (JH l w) λe w1 ⟨he,k1⟩=>⟨_,he,?_⟩
 subst k1;unfold ix;cases hf:fl l with
 | false=>exact aX rfl ⟨rfl,rfl⟩
 | true=>
  have hb:=bx.1 hf;refine aT rfl (aF (λhl=>⟨?_,rfl⟩) λhl=>⟨?_,rfl⟩)
  ·have hl:l<0:=by simpa using hl
   unfold idx; rw [if_pos rfl,if_pos hl]; congr 1; simp only [IntKind.wrap_i64]; omega
  ·have hl:¬l<0:=by simpa using hl
   unfold idx; rw [if_pos rfl,if_neg hl]; congr 1; simp only [IntKind.wrap_i64]; omega
theorem cH {l:Int} (hf:fl l=true):Calls Tryz.prog 99 #[J l] w λe w'=>e=.returned (J (idx l))/\af aq w w':=
 (Hq l w).mono λe w' ⟨h,k⟩=>⟨by rw [h]; unfold ix; rw [if_pos hf],k ▸ af.refl _ _⟩
theorem T_ (x y:Int) (w:World):Calls Tryz.prog 97 #[J x,J y] w λe w'=>e=.returned (J (ix x - ix y))/\w'=w:=by
 refine (LI x y w (λv w'=>v=J (ix x - ix y)/\w'=w) ?_).mono λe w' ⟨v,he,hv,hk⟩=>⟨by rw [he,hv],hk⟩
 unfold V97;refine az Eb (Hq x w) λe w1 ⟨he,k1⟩=>⟨_,he,?_⟩
 subst k1;refine az Eb (Hq y w1) λe w2 ⟨he,k2⟩=>⟨_,he,?_,k2⟩
 have hr:∀l, -1<=ix l/\ix l<=2097152:=λl=>by
  unfold ix;split
  ·have:=bJ (by assumption:fl l=true); omega
  ·omega
 have:=hr x;have:=hr y;congr 1;rw [IntKind.wrap_i64]; omega
theorem uC {t:TypeId} : ∀(vs:List Value) (b o:Nat) (w:World) (cs:List Value),b_ w b cs t->∃ku,b_ (w.setCells b o vs) b ku t/\ku.length=cs.length/\ku.take o=cs.take o/\af (One b) w (w.setCells b o vs):=by
 intro vs;induction vs with
 | nil=>intro b o w cs h; exact ⟨cs,h,rfl,rfl,af.refl _ _⟩
 | cons v vs ih=>
  intro b o w cs h;obtain ⟨ku,h1,h2,h3,h4⟩:=ih b (o+1) _ _ (h.set o v);refine ⟨ku,h1,by rw [h2,List.length_set],?_,(af.O2 (sp:=Option.none) v).trans h4 λ_ _ h=>h⟩;have:=congrArg (List.take o) h3;rw [List.take_take,List.take_take,Nat.min_eq_left (by omega)] at this;rw [this,List.take_set_of_le (Nat.le_refl _)]
theorem bR.clear {xs:List Value} {k m cc:Nat} {b:Nat} {K:World->Prop} (h:bR w 3 1 (some ⟨b,0,none⟩) n c xs) (hk:k<n) (hm:m=n - k) {ty:TypeId}
  (hK:∀w',bR w' 3 1 (some ⟨b,0,none⟩) k c (xs.take k)->af (One b) w w'->K w') :
  ∃w':World,(Builtin.clear_ #[59] ty #[.slice (some ⟨b,k,none⟩) m cc]).run Tryz.prog w=.ok (.tuple #[]) w'/\K w':=by
 rcases h with ⟨h,_⟩ | ⟨b',cs,hp,hB,h1,h2,h3,rfl⟩
 ·cases h
 cases hp;have hz:∀w,(zeroValue 3).run Tryz.prog w=.ok (J 0) w:=λw=>ia (by kernel_rfl) w;refine ⟨_,Lib.run_clear_slice w 59 3 ty (J 0) Tryz.underlying59 hz rfl rfl b k m cc (by omega) (λj hj=>?_) (λj hj=>hB.frozen _),?_⟩
 ·rw [hB.cell,List.getElem?_eq_getElem (by omega)]; rfl
 ·obtain ⟨ku,q1,q2,q3,q4⟩:=uC (List.replicate m (J 0)) b k w cs hB;refine hK _ (Or.inr ⟨b,ku,rfl,q1,by omega,h2,by omega,?_⟩) q4;rw [Nat.mul_one,Nat.mul_one,q3,List.take_take,Nat.min_eq_left (by omega)]
theorem Ua {z:List Int} (h:bR w 3 1 p n c (z.map J)) (hn:n<=17592186044416) (hf:∀x∈z,fl x=true) (hs:∀(i j:Nat) (a b:Int),i<j->z[i]?=some a->z[j]?=some b->idx a<=idx b) :
  Calls Tryz.prog 98 #[.slice p n c] w λe w'=>∃m c' L,e=.returned (.slice p m c')/\bR w' 3 1 p m c' (L.map J)/\sY L/\(∀x,x∈L↔x∈z)/\af (ob p) w w':=by
 refine (LO p n c w (λv w'=>∃m c' L,v=.slice p m c'/\bR w' 3 1 p m c' (L.map J)/\sY L/\(∀x,x∈L↔x∈z)/\af (ob p) w w') ?_).mono λe w' ⟨v,he,m,c',L,hv,hk⟩=>⟨m,c',L,by rw [he,hv],hk⟩
 unfold V98;have F8:z.length=n:=aO h;have Xb:∀{i j:Nat} {a b:Int},i<j->z[i]?=some a->z[j]?=some b->a≠b->idx a<idx b:=λoa ha hb bz=>by
  have:=hs _ _ _ _ oa ha hb;have:idx _≠idx _:=λe=>bz (cO (hf _ (List.mem_of_getElem? ha)) (hf _ (List.mem_of_getElem? hb)) e);omega
 refine aF (λaM=>?_) λbL=>?_
 ·have aM:n<2:=by simp at aM; omega
  refine ⟨n,c,z,rfl,h,?_,λx=>Iff.rfl,af.refl _ _⟩;match z,F8 with
  | [],_=>exact List.Pairwise.nil
  | [x],_=>exact List.pairwise_singleton ..
  | x :: y :: t,hl=>simp at hl; omega
 have bL:2<=n:=by simp at bL; omega
 refine bX (λs W=>∃k:Nat,s.1=(k:Int)/\1<=k/\k<=n/\sY (z.take k)/\bR W 3 1 p n c (z.map J)/\af (ob p) w W) (λs _=>(n - s.1).toNat)
  ⟨1,rfl,Nat.le_refl _,by omega,?_,h,af.refl _ _⟩ ?_
 ·match z with
  | []=>exact List.Pairwise.nil
  | x :: t=>exact List.pairwise_singleton ..
 rintro ⟨k',⟨⟩⟩ W ⟨k,rfl,xd,Eg,Xc,hO,kW⟩;simp only [];refine aF (λaM=>?_) λZD=>?_
 ·have aM:k<n:=by simpa using aM
  have S7:=hO.drew;have kd:af (ob p) w W.drew:=kW.drew;obtain ⟨x,hx⟩:=bg (show k<z.length by omega);obtain ⟨y,hy⟩:=bg (show k - 1<z.length by omega);obtain ⟨b,hb⟩:∃b,p=some ⟨b,0,none⟩:=by
   rcases h with ⟨_,h0,_⟩ | ⟨b,cs,hp,_⟩
   ·omega
   ·exact ⟨b,hp⟩
  subst hb;have e1:IntKind.wrap .i64 ((k:Int) - 1)=((k - 1:Nat):Int):=by rw [IntKind.wrap_i64]; omega
  rw [e1];have rd:∀{V:World} {i:Nat} {arr:List Int} {v:Int} {K:Int->Prop},bR V 3 1 (some ⟨b,0,none⟩) n c (arr.map J)->i<n->arr[i]?=some v->K v->cr (some ⟨b,0,none⟩) n (i:Int) 1 λa=>aW .i64 V a K:=by
   intro V i arr v K hV hi hv hK;refine cu (by omega) (by omega) ?_;rw [Int.toNat_natCast];exact ah (by rw [hV.cell _ (by omega),List.getElem?_map,hv]; rfl) hK
  refine rd S7 aM hx (rd S7 (by omega) hy ?_);refine aF (λheq=>?_) λbz=>?_
  ·have heq:x=y:=by simpa using heq
   subst heq;refine ⟨by omega,by omega,?_⟩;have sr:∀(m:Nat),m<n->jZ (some ⟨b,0,none⟩) c m 1=some ⟨b,m,none⟩:=λm hm=>by
    have:=hO.le;unfold jZ;rw [if_neg (by omega)];show some (Addr.add _ _)=_;rw [ag,Nat.zero_add,Nat.mul_one]
   rw [Int.toNat_natCast,sr k aM];refine bX (λs V=>∃(m j:Nat) (arr:List Int),s.1=(m:Int)/\s.2.1=(j:Int)/\1<=j/\j<=n - k/\k<=m/\m<=k+j - 1/\arr.length=n/\bR V 3 1 (some ⟨b,0,none⟩) n c (arr.map J)/\(∀i,k+j - 1<=i->arr[i]?=z[i]?)/\sY (arr.take m)/\
     (∀x,x∈arr.take m↔x∈z.take (k+j))/\af (ob (some ⟨b,0,none⟩)) w V) (λs _=>((n - k:Nat) - s.2.1).toNat)
    ⟨k,1,z,rfl,rfl,Nat.le_refl _,by omega,Nat.le_refl _,by omega,F8,S7,λ_ _=>rfl,Xc,λv=>?_,kd⟩ ?_
   ·rw [aB hx,List.mem_append,List.mem_singleton];refine ⟨Or.inl,λhh=>hh.elim id λe=>?_⟩;subst e;exact List.mem_of_getElem? (i:=k - 1) (by rw [List.getElem?_take,if_pos (by omega)]; exact hy)
   rintro ⟨m',j',⟨⟩⟩ V ⟨m,j,arr,rfl,rfl,hj1,GQ,hkm,hmk,Po,hV,Eh,hsD,hmD,kV⟩;simp only [];refine aF (λxG=>?_) λZE=>?_
   ·have xG:j<n - k:=by simpa using xG
    refine Bh ?_;have hVd:=hV.drew;have kVd:af (ob (some ⟨b,0,none⟩)) w V.drew:=kV.drew;obtain ⟨u,hu⟩:=bg (show k+j<z.length by omega);obtain ⟨v,hv⟩:=bg (show k+j - 1<z.length by omega);have rd2:∀{i:Nat} {x:Int} {K:Int->Prop},i<n - k->k+j - 1<=k+i->z[k+i]?=some x->K x->cr (some ⟨b,k,none⟩) (n - k) (i:Int) 1 λa=>aW .i64 V.drew a K:=by
     intro i x K hi bL hx hK;refine vT (by omega) (by omega) ?_;rw [Int.toNat_natCast,Nat.mul_one];exact ah (by rw [hVd.cell _ (by omega),List.getElem?_map,Eh _ bL,hx]; rfl) hK
    have e2:IntKind.wrap .i64 ((j:Int) - 1)=((j - 1:Nat):Int):=by rw [IntKind.wrap_i64]; omega
    rw [e2];refine rd2 xG (by omega) hu (rd2 (x:=v) (by omega) (by omega) (by rw [show k+(j - 1)=k+j - 1 by omega]; exact hv) ?_);have e3:IntKind.wrap .i64 ((j:Int)+1)=((j+1:Nat):Int):=by rw [IntKind.wrap_i64]; omega
    have e4:IntKind.wrap .i64 ((m:Int)+1)=((m+1:Nat):Int):=by rw [IntKind.wrap_i64]; omega
    rw [e3,e4];have hvm:v∈z.take (k+j):=List.mem_of_getElem? (i:=k+j - 1) (by rw [List.getElem?_take,if_pos (by omega)]; exact hv);refine aF (λbz=>?_) λheq=>?_
    ·have bz:u≠v:=by simpa using bz
     refine rd2 xG (by omega) hu ?_;refine cu (by omega) (by omega) ?_;rw [Int.toNat_natCast,ag,Nat.add_zero];refine hVd.st (by omega) rfl λV' hV' Pp _=>?_;rw [<-List.map_set] at hV';have S8:(arr.set m u).take (m+1)=arr.take m++[u]:=by
      have:(arr.set m u)[m]?=some u:=by rw [List.getElem?_set_self (by omega)]
      rw [aB this,List.take_set_of_le (Nat.le_refl _)]
     refine ⟨⟨m+1,j+1,arr.set m u,rfl,rfl,by omega,by omega,by omega,by omega,by rw [List.length_set]; exact Po,hV',λi hi=>?_,?_,λx=>?_,kVd.trans Pp λi _ h=>⟨_,rfl,h.symm⟩⟩,by omega⟩
     ·rw [List.getElem?_set_ne (by omega)]; exact Eh i (by omega)
     ·rw [S8];refine Ef hsD λa ha=>?_;obtain ⟨i,hi⟩:=List.mem_iff_getElem?.1 ((hmD a).1 ha);rw [List.getElem?_take] at hi;split at hi
      ·rename_i hik;have hvu:idx v<idx u:=Xb (show k+j - 1<k+j by omega) hv hu (Ne.symm bz);rcases Nat.lt_or_ge i (k+j - 1) with JI | JI
       ·have:=hs _ _ _ _ JI hi hv; omega
       ·obtain rfl:i=k+j - 1:=by omega
        rw [hv] at hi; injection hi with hi; subst hi; exact hvu
      ·cases hi
     ·rw [S8,List.mem_append,List.mem_singleton,hmD,show k+(j+1)=k+j+1 by omega,aB hu,List.mem_append,List.mem_singleton]
    ·have heq:u=v:=by simpa using heq
     refine ⟨⟨m,j+1,arr,rfl,rfl,by omega,by omega,hkm,by omega,Po,hVd,λi hi=>Eh i (by omega),hsD,λx=>?_,kVd⟩,by omega⟩;rw [hmD,show k+(j+1)=k+j+1 by omega,aB hu,List.mem_append,List.mem_singleton];exact ⟨Or.inl,λhh=>hh.elim id λe=>by rw [e,heq]; exact hvm⟩
   ·have ZE:j=n - k:=by simp at ZE; omega
    refine ⟨by omega,by omega,?_⟩;rw [Int.toNat_natCast,sr m (by omega)];refine bR.clear hV (by omega) rfl λV' hV' Pp=>?_;have:=hO.le;refine ⟨by omega,by omega,?_⟩;have e5:jZ (some ⟨b,0,none⟩) c 0 1=some ⟨b,0,none⟩:=by
     unfold jZ; rw [if_neg (by omega)]; show some (Addr.add _ _)=_; rw [ag]
    rw [e5,Nat.sub_zero,Nat.sub_zero];rw [<-List.map_take] at hV';refine ⟨m,c,arr.take m,rfl,hV',hsD,λx=>?_,kV.trans Pp λi _ h=>⟨_,rfl,h.symm⟩⟩;rw [hmD,ZE,show k+(n - k)=n by omega,<-F8,List.take_length]
  ·have bz:x≠y:=by simpa using bz
   have e2:IntKind.wrap .i64 ((k:Int)+1)=((k+1:Nat):Int):=by rw [IntKind.wrap_i64]; omega
   rw [e2];refine ⟨⟨k+1,rfl,by omega,aM,?_,S7,kd⟩,by omega⟩;rw [aB hx];refine Ef Xc λa ha=>?_;obtain ⟨i,hi⟩:=List.mem_iff_getElem?.1 ha;rw [List.getElem?_take] at hi;split at hi
   ·rename_i hik;have hvu:idx y<idx x:=Xb (show k - 1<k by omega) hy hx (Ne.symm bz);rcases Nat.lt_or_ge i (k - 1) with JI | JI
    ·have:=hs _ _ _ _ JI hi hy; omega
    ·obtain rfl:i=k - 1:=by omega
     rw [hy] at hi; injection hi with hi; subst hi; exact hvu
   ·cases hi
 ·have ZD:k=n:=by simp at ZD; omega
  subst ZD;rw [<-F8,List.take_length] at Xc;exact ⟨k,c,z,rfl,hO,Xc,λx=>Iff.rfl,kW⟩
theorem tU {t e:TypeId} {B:Nat} {z:Value} {l n:Int} {K:Option Addr->Nat->Nat->World->Prop}
  (ht:Tryz.prog.underlying t=some (.slice e)) (Ax:(Tryz.prog.info? e).map (λi=>(i.zero,i.size,i.bytes))=some (some z,1,B)) (hzc:z.cells=#[z])
  (h0:0<=l) (Xd:l<=n) (hb:(B:Int)*n<=281474976710656) (hn:n<=9223372036854775807)
  (h:∀b w',b=w.heap.size->b_ w' b (List.replicate n.toNat z) e->af aq w w'->K (some ⟨b,0,none⟩) l.toNat n.toNat w') :
  ∃(p:Option Addr) (l' c:Nat),∃w':World,(Instr.makeSlice t (.int .i64 l) (.int .i64 n)).run Tryz.prog w=.ok (.slice p l' c) w'/\K p l' c w':=by
 obtain ⟨i,hi,cW⟩:=Option.map_eq_some_iff.1 Ax;simp only [Prod.mk.injEq] at cW;obtain ⟨hz,vP,rfl⟩:=cW;have hr:=run_make (P:=Tryz.prog) w t e i z ht hi hz .i64 .i64 l n h0 Xd hb hn;refine ⟨_,_,_,_,hr,h _ _ rfl ?_ ((af.refl _ w).alloc _)⟩;have e1:madeCells z.cells (n.toNat*i.size)=(List.replicate n.toNat z).toArray:=by
  apply Array.toList_inj.1;rw [hzc,D7,vP,Nat.mul_one]
 rw [e1];exact b_.new w _ e
theorem Ei {cs:List Int} {i:Nat} {x:Int} (hx:cs[i]?=some x):(cs.take (i+1)).filter fl=if fl x=true then (cs.take i).filter fl++[x] else (cs.take i).filter fl:=by
 rw [aB hx,List.filter_append];split
 ·rename_i h; rw [List.filter_cons_of_pos h]; rfl
 ·rename_i h; rw [List.filter_cons_of_neg h]; simp
theorem Bp (h:cQ w p n cs) (hn:n<=17592186044416):Calls Tryz.prog 65 #[.slice p n c] w λe w'=>∃v L,e=.returned v/\Td (·∈cs) L/\mE w L v w':=by
 refine (LG p n c w (λv w'=>∃L,Td (·∈cs) L/\mE w L v w') ?_).mono λe w' ⟨v,he,L,hk⟩=>⟨v,L,he,hk⟩
 unfold V65;have hl:=h.len;refine tU (B:=8) (z:=J 0) Tryz.underlying59 (by kernel_rfl) rfl (Int.le_refl _) (by omega) (by omega) (by omega) λb w1 hb hB k1=>?_;rw [Int.toNat_natCast] at hB ⊢;have hG0:AG w w1 (some ⟨b,0,none⟩) 0 n []:=⟨Or.inr ⟨b,_,rfl,hB,Nat.zero_le _,by simp only [maxLen]; omega,by simp,by simp⟩,λi ⟨a,h,h'⟩=>by cases h; simp only [] at h'; omega,k1⟩
 refine bX (λs W=>∃i:Nat,s.2.1=i/\i<=n/\s.1.2.1<=i/\AG w W s.1.1 s.1.2.1 s.1.2.2 ((cs.take i).filter fl)) (λs _=>(n - s.2.1).toNat) ⟨0,rfl,Nat.zero_le _,by show (0:Int).toNat<=0; decide,hG0⟩ ?_;rintro ⟨⟨q,m,d⟩,i',⟨⟩⟩ w2 ⟨i,rfl,hi,hmi,hG⟩;simp only [] at hG hmi ⊢;refine aF (λaM=>?_) λbL=>?_
 ·have aM:i<n:=by simpa using aM
  refine Bh ?_;rw [aA i (by omega)];refine (h.aa hG.ax).ix aM λa x hx ha=>ah ha (az Ea (cD x) λe w3 ⟨he,k3⟩=>⟨_,he,?_⟩);have hG3:=hG.aa k3;have sn:=Ei hx;refine aF (λhf=>?_) λhf=>?_
  ·rw [if_pos hf] at sn;exact hG3.app (by omega) λp' c' w' hG'=>⟨⟨i+1,rfl,aM,by show m+1<=i+1; omega,by rw [sn]; exact hG'⟩,by omega⟩
  ·rw [if_neg (by rw [hf]; decide)] at sn;exact ⟨⟨i+1,rfl,aM,by show m<=i+1; omega,by rw [sn]; exact hG3⟩,by omega⟩
 ·have bL:i=n:=by simp at bL; omega
  subst bL;rw [<-hl,List.take_length] at hG;refine az N_.okS (N_.adv ai1 T_ (by omega) hG.own) λe w3 ⟨he,z,hz,hp,B3,k3⟩=>⟨he,?_⟩
  have SU:∀x∈z,fl x=true:=λx hx=>(List.mem_filter.1 (hp.mem_iff.1 hx)).2;have F8:z.length=m:=by have:=hz.len; simpa using this
  refine az ai3 (Ua hz (by omega) SU λi j a b oa ha hb=>?_) λe w4 ⟨m',c',L,he,hO,Xc,hm,k4⟩=>⟨_,_,_,he,L,⟨Xc,λx=>?_⟩,?_⟩
  ·have:=B3 i j a b oa ha hb;unfold ix at this;rwa [if_pos (SU a (List.mem_of_getElem? ha)),if_pos (SU b (List.mem_of_getElem? hb))] at this
  ·rw [hm,hp.mem_iff,List.mem_filter]
  ·have hL:=aO hO;subst hL;exact ⟨q,c',rfl,hO,hG.new,(hG.ax.trans k3 λi hi h=>by have:=hG.new i h; omega).trans k4 λi hi h=>by have:=hG.new i h; omega⟩
end
theorem ZF:∀{L:List Int},sY L->(∀x∈L,fl x=true)->∀(i:Nat) (x:Int),L[i]?=some x->(i:Int)<=idx x:=by
 intro L hs hf i;induction i with
 | zero=>intro x hx; have:=(bJ (hf x (List.mem_of_getElem? hx))).1; omega
 | succ i ih=>
  intro x hx;have hi:=(List.getElem?_eq_some_iff.1 hx).1;obtain ⟨y,hy⟩:=bg (show i<L.length by omega);have:=ih y hy;have:=ZC hs hy hx (Nat.lt_succ_self _);omega
theorem Ub {L:List Int} (h:sY L) (hf:∀x∈L,fl x=true):L.length<=2097153:=by
 by_cases h0:L.length=0
 ·omega
 obtain ⟨x,hx⟩:=bg (show L.length - 1<L.length by omega);have:=ZF h hf _ _ hx;have:=(bJ (hf x (List.mem_of_getElem? hx))).2;omega
theorem Td.len {M:Int->Prop} {L:List Int} (h:Td M L):L.length<=2097153:=Ub h.S5 h.all
theorem add_add (a:Addr) (h i:Nat):(a.add h).add i=a.add (h+i):=by
 unfold Addr.add;by_cases h0:h=0
 ·subst h0; simp
 ·by_cases i0:i=0
  ·subst i0; simp [h0]
  ·rw [if_neg i0,if_neg h0,if_neg (by omega)];simp [Nat.add_assoc]
section
variable {w:World} {p:Option Addr} {n c:Nat} {cs:List Int}
theorem cQ.take (h:cQ w p n cs) {m:Nat} (hm:m<=n):cQ w p m (cs.take m):=⟨by have:=h.len; simp; omega,λi x hx=>by
 rw [List.getElem?_take] at hx;split at hx
 ·exact h.cell i x hx
 ·cases hx⟩
theorem cQ.drop (h:cQ w p n cs) {m:Nat} (hm:m<n) (hc:n<=c):cQ w (jZ p c m 1) (n - m) (cs.drop m):=⟨by have:=h.len; simp; omega,λi x hx=>by
 rw [List.getElem?_drop] at hx;obtain ⟨a,rfl,kH⟩:=h.cell _ x hx;refine ⟨a.add (m*1),?_,?_⟩
 ·unfold jZ; rw [if_neg (by omega)]; rfl
 ·rw [add_add,Nat.mul_one]; exact kH⟩
theorem nC (p:Option Addr) (c sz:Nat):jZ p c 0 sz=p:=by
 unfold jZ;split
 ·rfl
 ·cases p with
  | none=>rfl
  | some a=>simp [Addr.add]
theorem Td.nil {M:Int->Prop} (h:∀x,fl x=true->¬M x):Td M []:=⟨List.Pairwise.nil,λx=>⟨λh=>(by cases h),λ⟨a,b⟩=>absurd a (h x b)⟩⟩
theorem mE.pre {w0:World} {xs:List Int} {v:Value} {w':World} (hk:af aq w0 w) (h:mE w xs v w'):mE w0 xs v w':=by
 obtain ⟨p,c,rfl,hO,hf,k⟩:=h;exact ⟨p,c,rfl,hO,λi hi=>by have:=hf i hi; have:=hk.size; omega,hk.ak k⟩
end
end dw
namespace T
open Go Vc
def V62 (w:World) (R:qR):Prop:=
 ∃x3:Option Nat,∃w1:World,(Instr.makeMap 157 none).run Tryz.prog w=.ok (.map x3) w1/\
 cg w1 [.slice none 0 0,.map x3,.slice none 0 0] 160 λb4 w2=>
 R (qP b4) w2
theorem LY (w R) (h:V62 w R):qE 62 #[] w R:=qv (.s .l (.s .l .l)) Tryz.func62 (by kernel_rfl) (by kernel_rfl) h
theorem Pq:br qQ 62:=by kernel_rfl
def V63 (a0:qA) (a1:qA) (dW:Nat) (fU:Nat) (a2:Bool) (w:World) (R:qR):Prop:=
 qb 93 [.slice a1 dW fU] w λx3 w1=>
 bC (!x3) (
  R (.tuple #[qI 0,qI 1]) w1) (
  nn a0 λp7=>
  aZ w1 (p7.add 0) λx8 Ca Cb=>
  nn a0 λxJ=>
  aZ w1 (xJ.add 0) λfh vU xK=>
  cg w1 [qI (dW:Int)] 3 λb12 w2=>
  qp 59 #[.slice fh vU xK,.slice (some (⟨b12,0,none⟩:Addr)) 1 1] w2 λeV sB uy w3=>
  nn a0 λCd=>
  st w3 ((Cd.add 0).add 0) (.slice eV sB uy) λw4=>
  nn a0 λCc=>
  aZ w4 (Cc.add 0) λfL lY pJ=>
  qp 59 #[.slice fL lY pJ,.slice a1 dW fU] w4 λgh LZ Ct w5=>
  nn a0 λPr=>
  st w5 ((Pr.add 0).add 0) (.slice gh LZ Ct) λw6=>
  nn a0 λTU=>
  Ap w6 (TU.add 1) λiU=>
  ∃w7:World,(Instr.mapUpdate 157 (.map iU) (qI (Ca:Int)) (.agg #[.bool a2])).run Tryz.prog w6=.ok () w7/\
  nn a0 λTT=>
  aZ w7 (TT.add 2) λiT ji j8=>
  cg w7 [qI (Ca:Int)] 118 λb26 w8=>
  qp 158 #[.slice iT ji j8,.slice (some (⟨b26,0,none⟩:Addr)) 1 1] w8 λiI ir jB w9=>
  nn a0 λHi=>
  st w9 ((Hi.add 2).add 0) (.slice iI ir jB) λcK=>
  R (.tuple #[qI (Ca:Int),qI 0]) cK)
theorem L0 (a0 a1 dW fU a2 w R) (h:V63 a0 a1 dW fU a2 w R):qE 63 #[.pointer a0,.slice a1 dW fU,.bool a2] w R:=qv (.s .l (.s (.s .l (.c (.s .l .l) .l)) (.s .l (.s .l (.s .l (.s .l (.s .l (.s .l .l)))))))) Tryz.func63 (by kernel_rfl) (by kernel_rfl) h
theorem adw:br qQ 63:=by kernel_rfl
def adx (a0:qA) (a1:Int) (w:World) (R:qR):Prop:=
 nn a0 λp3=>
 Ap w (p3.add 1) λx4=>
 ∃x5:Bool,∃x6:Bool,∃w1:World,(Instr.lookup 157 (.map x4) (qI a1) true).run Tryz.prog w=.ok (.tuple #[.agg #[.bool x5],.bool x6]) w1/\
 cg w1 [.bool false] 162 λb7 w2=>
 st w2 ((⟨b7,0,none⟩:Addr).add 0) (.bool x5) λw3=>
 bC (!x6) (
  R (qI 2) w3) (
  nn a0 λrF=>
  Ap w3 (rF.add 1) λdJ=>
  ∃w4:World,(Builtin.delete_ #[157,118] 0 #[.map dJ,qI a1]).run Tryz.prog w3=.ok (.tuple #[]) w4/\
  R (qI 0) w4)
theorem Hr (a0 a1 w R) (h:adx a0 a1 w R):qE 181 #[.pointer a0,qI a1] w R:=qv (.s .l (.s (.s .l (.s .l (.c (.s .l .l) .l))) (.s .l (.s .l .l)))) Tryz.func181 (by kernel_rfl) (by kernel_rfl) h
theorem ady:br qQ 181:=by kernel_rfl
def adz (a0:qA) (a1:Int) (w:World) (R:qR):Prop:=
 nn a0 λp3=>
 Ap w (p3.add 1) λx4=>
 ∃x5:Bool,∃x6:Bool,∃w1:World,(Instr.lookup 157 (.map x4) (qI a1) true).run Tryz.prog w=.ok (.tuple #[.agg #[.bool x5],.bool x6]) w1/\
 cg w1 [.bool false] 162 λb7 w2=>
 st w2 ((⟨b7,0,none⟩:Addr).add 0) (.bool x5) λw3=>
 bC (!x6) (
  R (.tuple #[.slice none 0 0,.bool false]) w3) (
  qc 173 [.pointer a0,qI a1] w3 λfh vU xK w4=>
  qc 172 [.slice fh vU xK] w4 λeV sB uy w5=>
  R (.tuple #[.slice eV sB uy,.bool true]) w5)
theorem Ht (a0 a1 w R) (h:adz a0 a1 w R):qE 139 #[.pointer a0,qI a1] w R:=qv (.s .l (.s (.s .l (.s .l (.c (.s .l .l) .l))) (.s .l .l))) Tryz.func139 (by kernel_rfl) (by kernel_rfl) h
theorem Xe:br qQ 139:=by kernel_rfl
def adA (a0:qA) (a1:Int) (w:World) (R:qR):Prop:=
 nn a0 λp4=>
 aZ w (p4.add 0) λx5 sS yU=>
 cr x5 sS a1 1 λp6=>
 aW .i64 w p6 λx7=>
 nn a0 λp9=>
 aZ w (p9.add 0) λdR iS mO=>
 (0:Int)<=(IntKind.wrap .i64 ((IntKind.wrap .i64 (a1+1))+x7))/\(IntKind.wrap .i64 ((IntKind.wrap .i64 (a1+1))+x7))<=(mO:Int)/\(0:Int)<=(IntKind.wrap .i64 ((IntKind.wrap .i64 (a1+1))+x7))/\(IntKind.wrap .i64 ((IntKind.wrap .i64 (a1+1))+x7))<=(IntKind.wrap .i64 ((IntKind.wrap .i64 (a1+1))+x7))/\(0:Int)<=(IntKind.wrap .i64 (a1+1))/\(IntKind.wrap .i64 (a1+1))<=(IntKind.wrap .i64 ((IntKind.wrap .i64 (a1+1))+x7))/\
 R (.slice (jZ dR (Int.toNat (IntKind.wrap .i64 ((IntKind.wrap .i64 (a1+1))+x7))) (Int.toNat (IntKind.wrap .i64 (a1+1))) 1) ((Int.toNat (IntKind.wrap .i64 ((IntKind.wrap .i64 (a1+1))+x7))) - (Int.toNat (IntKind.wrap .i64 (a1+1)))) ((Int.toNat (IntKind.wrap .i64 ((IntKind.wrap .i64 (a1+1))+x7))) - (Int.toNat (IntKind.wrap .i64 (a1+1))))) w
theorem Hu (a0 a1 w R) (h:adA a0 a1 w R):qE 173 #[.pointer a0,qI a1] w R:=qv (.s .l (.s .l (.s .l (.s .l .l)))) Tryz.func173 (by kernel_rfl) (by kernel_rfl) h
theorem adB:br qQ 173:=by kernel_rfl
def adC (a0:qA) (bQ:Nat) (cF:Nat) (w:World) (R:qR):Prop:=
 ∃(x3:qA) (sV F5:Nat),∃w1:World,(Instr.makeSlice 59 (qI 0) (qI (bQ:Int))).run Tryz.prog w=.ok (.slice x3 sV F5) w1/\
 qp 59 #[.slice x3 sV F5,.slice a0 bQ cF] w1 λx4 lQ sy w2=>
 R (.slice x4 lQ sy) w2
theorem Hv (a0 bQ cF w R) (h:adC a0 bQ cF w R):qE 172 #[.slice a0 bQ cF] w R:=qv (.s .l (.s .l .l)) Tryz.func172 (by kernel_rfl) (by kernel_rfl) h
theorem adD:br qQ 172:=by kernel_rfl
end T
namespace mT
open Go Vc T
open bt (cQ aL aA bg aO aB Sl sv mE J)
open dw (fl bx qG cZ cD)
structure Ar where
 cs:List (List Int)
 live:List Int
def cw (c:List Int):List Int:=(c.length:Int) :: c
def words (cs:List (List Int)):List Int:=cs.flatMap cw
def off (cs:List (List Int)) (k:Nat):Nat:=(words (cs.take k)).length
theorem oz (cs:List (List Int)) (c:List Int):words (cs++[c])=words cs++cw c:=by simp [words]
theorem Pu (cs:List (List Int)) {k:Nat} {c:List Int} (h:cs[k]?=some c):∃ahead behind,words cs=ahead++cw c++behind/\ahead.length=off cs k:=by
 obtain ⟨h1,h2⟩:=List.getElem?_eq_some_iff.1 h;refine ⟨words (cs.take k),words (cs.drop (k+1)),?_,rfl⟩;have:cs=cs.take k++[c]++cs.drop (k+1):=by
  rw [<-h2,List.append_assoc,List.singleton_append,<-List.drop_eq_getElem_cons h1,List.take_append_drop]
 conv=>lhs; rw [this]
 simp [words]
def tV (v:Value):Prop:=∃b,v=.agg #[.bool b]
structure AR (M:Nat->Prop) (w:World) (b:Nat) (A:Ar):Prop where
 rep:∃(wp:Option Addr) (wn wc r:Nat) (op:Option Addr) (oc:Nat) (os:List Int),b_ w b [.slice wp wn wc,.map (some r),.slice op A.cs.length oc] 160/\bR w 3 1 wp wn wc ((words A.cs).map J)/\Mk tV w r A.live/\bR w 118 1 op A.cs.length oc (os.map J)/\
  M r/\(∀i,ob wp i->M i)/\(∀i,ob op i->M i)/\r≠b/\(∀i,ob wp i->i≠b/\i≠r)/\(∀i,ob op i->i≠b/\i≠r/\¬ob wp i)
 own:M b
 lt:∀i,M i->i<w.heap.size
 lv:∀x∈A.live,∃k,k<A.cs.length/\x=off A.cs k
section
variable {M:Nat->Prop} {w w':World} {b:Nat} {A:Ar}
theorem AR.ax {U:Nat->Prop} (h:AR M w b A) (hk:af U w w') (hu:∀i,U i->¬M i):AR M w' b A:=by
 obtain ⟨wp,wn,wc,r,op,oc,os,h1,h2,h3,h4,m1,m2,m3,d1,d2,d3⟩:=h.rep;exact ⟨⟨wp,wn,wc,r,op,oc,os,h1.ax hk λhh=>hu b hh h.own,h2.ax hk λi hi hh=>hu i hh (m2 i hi),h3.ax hk λhh=>hu r hh m1,h4.ax hk λi hi hh=>hu i hh (m3 i hi),m1,m2,m3,d1,d2,d3⟩,h.own,λi hi=>Nat.lt_of_lt_of_le (h.lt i hi) hk.size,h.lv⟩
theorem AR.aa (h:AR M w b A) (hk:af aq w w'):AR M w' b A:=h.ax hk λ_ h=>h.elim
theorem Ej (w:World):Calls Tryz.prog 62 #[] w λe w'=>∃b M,e=.returned (.pointer (some ⟨b,0,none⟩))/\AR M w' b ⟨[],[]⟩/\(∀i,M i->w.heap.size<=i)/\af aq w w':=by
 refine (LY w (λv w'=>∃b M,v=.pointer (some ⟨b,0,none⟩)/\AR M w' b ⟨[],[]⟩/\(∀i,M i->w.heap.size<=i)/\af aq w w') ?_).mono λe w' ⟨v,he,b,M,hv,hk⟩=>⟨b,M,by rw [he,hv],hk⟩
 unfold V62;refine LX (V:=tV) λr w1 hr hM k1=>?_;refine aD λb w2 hb hB k2=>?_;have l1:=hM.lt;have l2:=hB.lt;have z1:=k1.size;refine ⟨b,λi=>i=r\/i=b,rfl,⟨⟨none,0,0,r,none,0,[],hB,bR.nil _ _ _,hM.aa k2,bR.nil _ _ _,Or.inl rfl,(λi ⟨a,h,_⟩=>by cases h),(λi ⟨a,h,_⟩=>by cases h),by omega,(λi ⟨a,h,_⟩=>by cases h),(λi ⟨a,h,_⟩=>by cases h)⟩,Or.inr rfl,λi hi=>?_,λx hx=>by cases hx⟩,λi hi=>?_,k1.ak k2⟩
 ·have:=k2.size;rcases hi with hi | hi<;>omega
 ·rcases hi with hi | hi<;>omega
theorem yl {p:Option Addr} {n c:Nat} {cs:List Int} (hR:cQ w p n cs) (hn:n<=17592186044416) :
  Calls Tryz.prog 93 #[.slice p n c] w λe w'=>∃r:Bool,e=.returned (.bool r)/\(r=true↔∀x∈cs,fl x=true)/\af aq w w':=by
 refine (Bo p n c w (λv w'=>∃r:Bool,v=.bool r/\(r=true↔∀x∈cs,fl x=true)/\af aq w w') ?_).mono λe w' ⟨v,he,r,hv,hk⟩=>⟨r,by rw [he,hv],hk⟩
 unfold V93;have pM:=hR.len;refine bX (λs W=>∃i:Nat,s.1=i/\i<=n/\af aq w W/\∀x∈cs.take i,fl x=true) (λs _=>(n - s.1).toNat) ⟨0,rfl,Nat.zero_le _,af.refl _ _,λx hx=>by simp at hx⟩ ?_;rintro ⟨i',⟨⟩⟩ W ⟨i,rfl,hi,kW,hv⟩;dsimp only;refine aF (λaM=>?_) λbL=>?_
 ·have aM:i<n:=by simpa using aM
  rw [aA i (by omega)];refine (hR.aa kW).ix aM λa x hx ha=>ah ha ?_;refine az Ea (cD x) λe w2 ⟨he,k2⟩=>⟨_,he,?_⟩
  refine aF (λhq=>⟨false,rfl,⟨λh=>(by cases h),λh=>?_⟩,kW.ak k2⟩) λhq=>?_
  ·rw [h x (List.mem_of_getElem? hx)] at hq; cases hq
  ·refine ⟨⟨i+1,rfl,aM,kW.ak k2,λy hy=>?_⟩,by omega⟩;rw [aB hx] at hy;rcases List.mem_append.1 hy with hy | hy
   ·exact hv y hy
   ·rw [List.mem_singleton.1 hy]; simpa using hq
 ·have bL:i=n:=by simp at bL; omega
  subst bL;rw [<-pM,List.take_length] at hv;exact ⟨true,rfl,⟨λ_=>hv,λ_=>rfl⟩,kW⟩
structure AfA (M:Nat->Prop) (w:World) (b:Nat) (A:Ar) (M':Nat->Prop) (w':World):Prop where
 ar:AR M' w' b A
 gr:∀i,M' i->M i\/w.heap.size<=i
 kp:af M w w'
theorem ym (cs:List (List Int)) (c:List Int):off (cs++[c]) cs.length=(words cs).length:=by unfold off; rw [List.take_left]
theorem yo (cs:List (List Int)) (c:List Int) {k:Nat} (h:k<=cs.length):off (cs++[c]) k=off cs k:=by unfold off; rw [List.take_append_of_le_length h]
theorem Cu (cs:List (List Int)) {k:Nat} (h:k<cs.length):off cs k<(words cs).length:=by
 obtain ⟨c,hc⟩:=bg h;obtain ⟨a,d,h1,h2⟩:=Pu cs hc;rw [h1,<-h2];simp [cw]
theorem adE (h:AR M w b A) {p:Option Addr} {n c:Nat} {cs:List Int} (hR:cQ w p n cs) (hN:ql w 1 p n c (cs.map J)) (hn:n<=17592186044416) (hq:∀j,ob p j->0<n->¬M j) (hf:∀x∈cs,fl x=true) (hw:(words A.cs).length+n+1<=17592186044416) (hl:A.cs.length+1<=17592186044416) (flag:Bool) :
  Calls Tryz.prog 63 #[.pointer (some ⟨b,0,none⟩),.slice p n c,.bool flag] w λe w'=>e=.returned (.tuple #[J ((words A.cs).length:Nat),J 0])/\∃M',AfA M w b ⟨A.cs++[cs],A.live++[((words A.cs).length:Int)]⟩ M' w':=by
 refine (L0 (some ⟨b,0,none⟩) p n c flag w (λv w'=>v=.tuple #[J ((words A.cs).length:Nat),J 0]/\∃M',AfA M w b ⟨A.cs++[cs],A.live++[((words A.cs).length:Int)]⟩ M' w') ?_).mono λe w' ⟨v,he,hv,hk⟩=>⟨by rw [he,hv],hk⟩
 unfold V63;obtain ⟨wp,wn,wc,r,op,oc,os,hB,hW,ZG,hO,m1,m2,m3,d1,d2,d3⟩:=h.rep;have hwn:=aO hW;have sj:=hO.len;have g_:=hR.len;have uk:b<w.heap.size:=hB.lt;have Pv:r<w.heap.size:=ZG.lt;refine az LC (yl hR hn) λe w1 ⟨q,he,hr,k1⟩=>⟨q,he,?_⟩
 obtain rfl:q=true:=hr.2 hf;have z1:=k1.size;refine aT rfl (ay (au (x:=wp) (n:=wn) (c:=wc) (by rw [ag]; exact (hB.aa k1).cell 0) (ay (au (x:=wp) (n:=wn) (c:=wc) (by rw [ag]; exact (hB.aa k1).cell 0) ?_))));refine aD λb12 w2 aou qH k2=>?_;have z2:=k2.size;have fF:=k1.ak k2;have L3:∀{i:Nat},ob wp i\/w2.heap.size<=i->i≠b/\i≠r:=λ{i} hi=>by
  rcases hi with hi | hi
  ·exact d2 i hi
  ·omega
 refine qm (e:=3) (sz:=1) (z:=J 0) (B:=8) Tryz.underlying59 (by kernel_rfl) rfl (by omega) (hW.aa fF) qH.kU (λu hu=>?_) (by simp only [maxLen]; omega) (by omega) λp3 c3 w3 F9 k3 JJ=>?_
 ·rw [List.mem_singleton.1 hu]; rfl
 have z3:=k3.size;have bP:=(hB.aa fF).ax k3 λhh=>(d2 b hh).1 rfl;refine ay ?_;rw [ag,ag];refine aG bP (by simp) rfl λw4 gJ k4 z4=>?_;have uA:bR w4 3 1 p3 (wn+1) c3 ((words A.cs++[(n:Int)]).map J):=by
  rw [List.map_append];exact F9.ax k4 λi hi hh=>(L3 (JJ i hi)).1 hh
 refine ay (au (x:=p3) (n:=wn+1) (c:=c3) (by rw [ag]; exact gJ.cell 0) ?_);have kR:∀{i:Nat} {a:Addr},p=some a->cs[i]?≠none->True:=λ_ _=>trivial;have hN4:ql w4 1 p n c (cs.map J):=by
  rcases hN with hN | ⟨a,rfl,h1,h2⟩
  ·exact Or.inl hN
  ·by_cases GC:n=0
   ·have vE:cs=[]:=List.eq_nil_of_length_eq_zero (by omega);subst vE;exact Or.inr ⟨a,rfl,h1,λj u hu=>by simp at hu⟩
   ·have hM0:=hq a.block ⟨a,rfl,rfl⟩ (by omega);refine Or.inr ⟨a,rfl,h1,λj u hu=>?_⟩;have hb:(a.add j).block=a.block:=by unfold Addr.add; split<;>rfl
    have c0:=h2 j u hu;have c2:=fF.cell c0 λh=>h;have c3':=k3.cell c2 (by rw [hb]; exact λhh=>hM0 (m2 _ hh));exact k4.cell c3' (by rw [hb]; exact λhh=>hM0 (by rw [show a.block=b from hh]; exact h.own))
 refine qm (e:=3) (sz:=1) (z:=J 0) (B:=8) Tryz.underlying59 (by kernel_rfl) rfl (by omega) uA hN4 (λu hu=>?_) (by simp only [maxLen]; omega) (by omega) λp5 c5 w5 Pj k5 hd5=>?_
 ·obtain ⟨y,_,rfl⟩:=List.mem_map.1 hu; rfl
 have z5:=k5.size;have ne5:∀{i:Nat},ob p3 i->i≠b/\i≠r:=λ{i} hi=>L3 (JJ i hi);have oe:=gJ.ax k5 λhh=>(ne5 hh).1 rfl;refine ay ?_;rw [ag,ag];refine aG oe (by simp) rfl λw6 rI k6 z6=>?_;have f5:∀i,ob p5 i->ob wp i\/w2.heap.size<=i:=λi hi=>by
  rcases hd5 i hi with h1 | h1
  ·exact JJ i h1
  ·exact Or.inr (by omega)
 have SZ:bR w6 3 1 p5 (wn+1+n) c5 ((words A.cs++[(n:Int)]++cs).map J):=by
  rw [List.map_append];exact Pj.ax k6 λi hi hh=>(L3 (f5 i hi)).1 hh
 have ai7:Mk tV w6 r A.live:=((((ZG.aa fF).ax k3 λhh=>(d2 r hh).2 rfl).ax k4 λhh=>d1 hh).ax k5 λhh=>(ne5 hh).2 rfl).ax k6 λhh=>d1 hh;refine ay (fH (x:=some r) (by rw [ag]; exact rI.cell 1) ?_);have ZH:(wn:Int)=(((words A.cs).length:Nat):Int):=by rw [hwn]
 have TF:((words A.cs).length:Int)∉A.live:=λhm=>by
  obtain ⟨k,hk,e⟩:=h.lv _ hm;have:=Cu A.cs hk;omega
 rw [ZH];refine ZB (V:=tV) Tryz.underlying157 (by kernel_rfl) ai7 TF ⟨flag,rfl⟩ λw7 ai8 k7 z7=>?_;have nE:∀{i:Nat},ob op i->i≠b/\i≠r/\¬ob wp i/\i<w.heap.size:=λ{i} hi=>⟨(d3 i hi).1,(d3 i hi).2.1,(d3 i hi).2.2,hO.lt i hi⟩
 have mU:=rI.ax k7 λhh=>d1 (show r=b from hh.symm);refine ay (au (x:=op) (n:=A.cs.length) (c:=oc) (by rw [ag]; exact mU.cell 2) ?_);refine aD λb26 w8 aov ai9 k8=>?_;have z8:=k8.size;have aja:bR w8 118 1 op A.cs.length oc (os.map J):=((((((hO.aa fF).ax k3 λi hi hh=>(nE hi).2.2.1 hh).ax k4 λi hi hh=>(nE hi).1 hh).ax k5 λi hi hh=>by
   rcases JJ i hh with h1 | h1
   ·exact (nE hi).2.2.1 h1
   ·have:=(nE hi).2.2.2; omega).ax k6 λi hi hh=>(nE hi).1 hh).ax k7 λi hi hh=>(nE hi).2.1 hh).aa k8
 refine qm (e:=118) (sz:=1) (z:=J 0) (B:=8) Tryz.underlying158 (by kernel_rfl) rfl (by omega) aja ai9.kU (λu hu=>?_) (by simp only [maxLen]; omega) (by omega) λp9 c9 w9 S9 k9 hd9=>?_
 ·rw [List.mem_singleton.1 hu]; rfl
 have z9:=k9.size;have JK:=(mU.aa k8).ax k9 λhh=>(nE hh).1 rfl;refine ay ?_;rw [ag,ag];refine aG JK (by simp) rfl λcK Pw fD z10=>⟨rfl,?_⟩
 have ajb:∀i,ob p5 i->i<w5.heap.size:=Pj.lt;have np5:∀i,ob p5 i->¬ob op i:=λi hi hh=>by
  rcases f5 i hi with h1 | h1
  ·exact (nE hh).2.2.1 h1
  ·have:=(nE hh).2.2.2; omega
 have Hw:bR cK 3 1 p5 (wn+1+n) c5 ((words (A.cs++[cs])).map J):=by
  have e1:words (A.cs++[cs])=words A.cs++[(n:Int)]++cs:=by
   rw [oz]; unfold cw; rw [g_]; simp
  rw [e1];exact (((SZ.ax k7 λi hi hh=>(L3 (f5 i hi)).2 hh).aa k8).ax k9 λi hi hh=>np5 i hi hh).ax fD λi hi hh=>(L3 (f5 i hi)).1 hh
 have bI:af M w cK:=by
  have kM:∀{wa wb:World} {U:Nat->Prop},af M w wa->af U wa wb->(∀i,i<w.heap.size->U i->M i)->af M w wb:=λh1 h2 h3=>h1.trans h2 h3;refine kM (kM (kM (kM (kM (kM (kM (kM fF.none k3 λi _ hh=>m2 i hh) k4 λi _ hh=>by rw [show i=b from hh]; exact h.own) k5 λi hi hh=>?_) k6 λi _ hh=>by rw [show i=b from hh]; exact h.own) k7 λi _ hh=>by rw [show i=r from hh]; exact m1) k8 λi _ hh=>hh.elim) k9 λi hi hh=>m3 i hh) fD λi _ hh=>by rw [show i=b from hh]; exact h.own
  rcases JJ i hh with h1 | h1
  ·exact m2 i h1
  ·omega
 have aow:w.heap.size<=cK.heap.size:=bI.size;refine ⟨λi=>i<cK.heap.size/\(M i\/w.heap.size<=i),⟨⟨p5,wn+1+n,c5,r,p9,c9,os++[((words A.cs).length:Int)],?_,Hw,?_,?_,⟨by omega,Or.inl m1⟩,λi hi=>⟨by have:=Hw.lt i hi; omega,?_⟩,λi hi=>⟨by have:=S9.lt i hi; omega,?_⟩,d1,λi hi=>L3 (f5 i hi),λi hi=>?_⟩,⟨by omega,Or.inl h.own⟩,λi hi=>hi.1,λx hx=>?_⟩,λi hi=>hi.2,bI⟩
 ·have:(A.cs++[cs]).length=A.cs.length+1:=by simp
  rw [this]; exact Pw
 ·exact ((ai8.aa k8).ax k9 λhh=>(nE hh).2.1 rfl).ax fD λhh=>d1 hh
 ·have:(A.cs++[cs]).length=A.cs.length+1:=by simp
  rw [this,List.map_append];exact S9.ax fD λi hi hh=>by
   rcases hd9 i hi with h1 | h1
   ·exact (nE h1).1 hh
   ·have:i=b:=hh; omega
 ·rcases f5 i hi with h1 | h1
  ·exact Or.inl (m2 i h1)
  ·exact Or.inr (by omega)
 ·rcases hd9 i hi with h1 | h1
  ·exact Or.inl (m3 i h1)
  ·exact Or.inr (by omega)
 ·rcases hd9 i hi with h1 | h1
  ·exact ⟨(nE h1).1,(nE h1).2.1,λhh=>np5 i hh h1⟩
  ·exact ⟨by omega,by omega,λhh=>by have:=ajb i hh; omega⟩
 ·rcases List.mem_append.1 hx with hx | hx
  ·obtain ⟨k,hk,e⟩:=h.lv x hx;exact ⟨k,by simp; omega,by rw [yo _ _ (by omega)]; exact e⟩
  ·exact ⟨A.cs.length,by simp,by rw [List.mem_singleton.1 hx,ym]⟩
theorem adF {p:Option Addr} {n c:Nat} {cs:List Int} (hl:cs.length=n) (hN:ql w 1 p n c (cs.map J)) (hn:n<=17592186044416) :
  Calls Tryz.prog 172 #[.slice p n c] w λe w'=>∃v,e=.returned v/\mE w cs v w':=by
 refine Hv p n c w (mE w cs) ?_;unfold adC;refine dw.tU (B:=8) (z:=J 0) Tryz.underlying59 (by kernel_rfl) rfl (by omega) (by omega) (by omega) (by omega) λb w1 hb hB k1=>?_;rw [Int.toNat_natCast] at hB ⊢;have hO:bR w1 3 1 (some ⟨b,0,none⟩) 0 n []:=Or.inr ⟨b,_,rfl,hB,Nat.zero_le _,by simp only [maxLen]; omega,by simp,by simp⟩;have hN1:ql w1 1 p n c (cs.map J):=by
  rcases hN with hN | ⟨a,rfl,h1,h2⟩
  ·exact Or.inl hN
  ·exact Or.inr ⟨a,rfl,h1,λj u hu=>k1.cell (h2 j u hu) λh=>h⟩
 refine qm (e:=3) (sz:=1) (z:=J 0) (B:=8) Tryz.underlying59 (by kernel_rfl) rfl (by omega) hO hN1 (λu hu=>?_) (by simp only [maxLen]; omega) (by omega) λp3 c3 w3 F9 k3 JJ=>?_
 ·obtain ⟨y,_,rfl⟩:=List.mem_map.1 hu; rfl
 ·have e0:Int.toNat 0+n=n:=Nat.zero_add n;rw [e0,List.nil_append] at F9;rw [e0];subst hl;have z1:=k1.size;have lb:=hB.lt;refine ⟨p3,c3,rfl,F9,λi hi=>?_,k1.trans k3 λi hi ⟨a,ha,hj⟩=>by injection ha with ha; subst ha; have lW:b=i:=hj; omega⟩;rcases JJ i hi with ⟨a,ha,hj⟩ | h1
  ·injection ha with ha; subst ha;have lW:b=i:=hj; omega
  ·omega
def F_ (w:World) (A:Ar) (r:Int) (v:Value) (w':World):Prop:=
 (r∉A.live/\v=.tuple #[.slice none 0 0,.bool false]/\af aq w w')\/
 ∃k c p cc,r∈A.live/\r=off A.cs k/\A.cs[k]?=some c/\v=.tuple #[.slice p c.length cc,.bool true]/\bR w' 3 1 p c.length cc (c.map J)/\(∀i,ob p i->w.heap.size<=i)/\af aq w w'
theorem Xf (h:AR M w b A) (hw:(words A.cs).length<=17592186044416) (r:Int) :
  Calls Tryz.prog 139 #[.pointer (some ⟨b,0,none⟩),J r] w λe w'=>∃v,e=.returned v/\F_ w A r v w':=by
 refine Ht (some ⟨b,0,none⟩) r w (F_ w A r) ?_;unfold adz;obtain ⟨wp,wn,wc,mr,op,oc,os,hB,hW,ZG,hO,m1,m2,m3,d1,d2,d3⟩:=h.rep;have hwn:=aO hW;refine ay (fH (x:=some mr) (by rw [ag]; exact hB.cell 1) ?_);have key:=Pk (V:=tV) (P:=Tryz.prog) (mty:=157) (kt:=118) (et:=162) (z:=.agg #[.bool false]) (k:=r)
  (K:=λv b w1=>∃x5:Bool,v=.agg #[.bool x5]/\b=decide (r∈A.live)/\w1=w) Tryz.underlying157 (by kernel_rfl) (by kernel_rfl) ZG (λv hv hz=>by
   by_cases hm:r∈A.live
   ·obtain ⟨x,hx⟩:=hv hm;exact ⟨x,hx,rfl,rfl⟩
   ·exact ⟨false,hz hm,rfl,rfl⟩)
 obtain ⟨v,bb,w1,sD,x5,rfl,rfl,rfl⟩:=key;refine ⟨x5,_,_,sD,?_⟩;refine aD λb7 w2 hb7 mU k2=>?_;have z2:=k2.size;rw [ag];refine aG mU (by simp) rfl λw3 bP k3 z3=>?_;have gQ:af aq w1 w3:=k2.trans k3 λi hi hh=>by have jP:i=b7:=hh; omega
 refine aF (λhq=>Or.inl ⟨by simpa using hq,rfl,gQ⟩) λhq=>?_;have hm:r∈A.live:=by simpa using hq
 obtain ⟨k,hk,hrk⟩:=h.lv r hm;obtain ⟨c,hc⟩:=bg hk;obtain ⟨ahead,behind,Xg,Po⟩:=Pu A.cs hc;subst hrk
 -- yf slice acK is cut
 have hlen:(words A.cs).length=ahead.length+1+c.length+behind.length:=by rw [Xg]; simp [cw]; omega
 have adG:∀(j:Nat) (x:Int),(words A.cs)[j]?=some x->∃wb,wp=some ⟨wb,0,none⟩/\w3.cell? ⟨wb,j,none⟩=some (J x):=λj x hx=>by
  have hW3:=hW.aa gQ;have Uc:=(List.getElem?_eq_some_iff.1 hx).1;rcases hW3 with ⟨rfl,h0,_,_⟩ | ⟨wb,ku,rfl,_⟩
  ·omega
  ·refine ⟨wb,rfl,?_⟩;have ajc:=hW.aa gQ;rw [ajc.cell j (by omega),List.getElem?_map,hx]; rfl
 have JL:(words A.cs)[off A.cs k]?=some (c.length:Int):=by
  rw [Xg,<-Po,List.append_assoc,List.getElem?_append_right (Nat.le_refl _),Nat.sub_self]; rfl
 obtain ⟨wb,hwp,JM⟩:=adG _ _ JL;have ZI:Calls Tryz.prog 173 #[.pointer (some ⟨b,0,none⟩),J (off A.cs k)] w3 λe w'=>∃cc,e=.returned (.slice (jZ wp (off A.cs k+1+c.length) (off A.cs k+1) 1) c.length cc)/\w'=w3:=by
  refine (Hu (some ⟨b,0,none⟩) (off A.cs k) w3 (λv w'=>∃cc,v=.slice (jZ wp (off A.cs k+1+c.length) (off A.cs k+1) 1) c.length cc/\w'=w3) ?_).mono λe w' ⟨v,he,cc,hv,hw⟩=>⟨cc,by rw [he,hv],hw⟩
  unfold adA;have Ud:=hB.aa gQ;refine ay (au (x:=wp) (n:=wn) (c:=wc) (by rw [ag]; exact Ud.cell 0) ?_);rw [hwp];refine cu (by omega) (by omega) ?_;rw [Int.toNat_natCast];refine ah JM (ay (au (x:=wp) (n:=wn) (c:=wc) (by rw [ag]; exact Ud.cell 0) ?_));have e1:IntKind.wrap .i64 ((off A.cs k:Int)+1)=((off A.cs k+1:Nat):Int):=by rw [IntKind.wrap_i64]; omega
  have e2:IntKind.wrap .i64 (((off A.cs k+1:Nat):Int)+(c.length:Int))=((off A.cs k+1+c.length:Nat):Int):=by rw [IntKind.wrap_i64]; omega
  have hwc:=hW.le.1;rw [e1,e2];refine ⟨by omega,by omega,by omega,by omega,by omega,by omega,?_⟩;rw [Int.toNat_natCast,Int.toNat_natCast];refine ⟨off A.cs k+1+c.length - (off A.cs k+1),?_,rfl⟩;rw [hwp];congr 1;omega
 refine az adB ZI λe w4 ⟨cc,he,hw4⟩=>⟨_,_,_,he,?_⟩
 subst hw4;have hN:ql w4 1 (jZ wp (off A.cs k+1+c.length) (off A.cs k+1) 1) c.length cc (c.map J):=by
  rw [hwp];unfold jZ;by_cases h0:off A.cs k+1+c.length=off A.cs k+1
  ·have hcn:c=[]:=List.eq_nil_of_length_eq_zero (by omega);rw [if_pos h0];subst hcn;exact Or.inr ⟨_,rfl,rfl,λj u hu=>by simp at hu⟩
  ·rw [if_neg h0];refine Or.inr ⟨(⟨wb,0,none⟩:Addr).add ((off A.cs k+1)*1),rfl,by simp,λj u hu=>?_⟩;rw [ag,ag];rw [List.getElem?_map] at hu;cases hcj:c[j]? with
   | none=>rw [hcj] at hu; cases hu
   | some x=>
    rw [hcj] at hu;injection hu with hu;rw [<-hu];have hx:(words A.cs)[off A.cs k+1+j]?=some x:=by
     have Uc:=(List.getElem?_eq_some_iff.1 hcj).1;rw [Xg,<-Po,List.append_assoc,List.getElem?_append_right (by omega),show ahead.length+1+j - ahead.length=j+1 by omega];unfold cw;rw [List.cons_append,List.getElem?_cons_succ,List.getElem?_append_left Uc];exact hcj
    obtain ⟨JN,L4,kH⟩:=adG _ _ hx;rw [hwp] at L4;injection L4 with L4;injection L4 with L4 _;subst L4;rw [show 0+(off A.cs k+1)*1+j=off A.cs k+1+j by omega];exact kH
 refine az adD (adF rfl hN (by omega)) λe w5 ⟨v5,he,p5,c5,hv5,Pj,hf5,k5⟩=>⟨p5,c.length,c5,by rw [he,hv5],Or.inr ⟨k,c,p5,c5,hm,rfl,hc,rfl,Pj,λi hi=>by have:=hf5 i hi; have:=gQ.size; omega,gQ.ak k5⟩⟩
theorem ZJ (h:AR M w b A) (r:Int) :
  Calls Tryz.prog 181 #[.pointer (some ⟨b,0,none⟩),J r] w λe w'=>(e=.returned (J 2)/\r∉A.live/\af aq w w')\/(e=.returned (J 0)/\r∈A.live/\∃M',AfA M w b ⟨A.cs,A.live.erase r⟩ M' w'):=by
 refine (Hr (some ⟨b,0,none⟩) r w (λv w'=>(v=J 2/\r∉A.live/\af aq w w')\/(v=J 0/\r∈A.live/\∃M',AfA M w b ⟨A.cs,A.live.erase r⟩ M' w')) ?_).mono λe w' ⟨v,he,hk⟩=>?_;rotate_left
 ·rcases hk with ⟨rfl,hk⟩ | ⟨rfl,hk⟩
  ·exact Or.inl ⟨he,hk⟩
  ·exact Or.inr ⟨he,hk⟩
 unfold adx;obtain ⟨wp,wn,wc,mr,op,oc,os,hB,hW,ZG,hO,m1,m2,m3,d1,d2,d3⟩:=h.rep;refine ay (fH (x:=some mr) (by rw [ag]; exact hB.cell 1) ?_);have key:=Pk (V:=tV) (P:=Tryz.prog) (mty:=157) (kt:=118) (et:=162) (z:=.agg #[.bool false]) (k:=r)
  (K:=λv b w1=>∃x5:Bool,v=.agg #[.bool x5]/\b=decide (r∈A.live)/\w1=w) Tryz.underlying157 (by kernel_rfl) (by kernel_rfl) ZG (λv hv hz=>by
   by_cases hm:r∈A.live
   ·obtain ⟨x,hx⟩:=hv hm;exact ⟨x,hx,rfl,rfl⟩
   ·exact ⟨false,hz hm,rfl,rfl⟩)
 obtain ⟨v,bb,w1,sD,x5,rfl,rfl,rfl⟩:=key;refine ⟨x5,_,_,sD,?_⟩;refine aD λb7 w2 hb7 mU k2=>?_;have z2:=k2.size;rw [ag];refine aG mU (by simp) rfl λw3 bP k3 z3=>?_;have gQ:af aq w1 w3:=k2.trans k3 λi hi hh=>by have jP:i=b7:=hh; omega
 refine aF (λhq=>Or.inl ⟨rfl,by simpa using hq,gQ⟩) λhq=>?_;have hm:r∈A.live:=by simpa using hq
 refine ay (fH (x:=some mr) (by rw [ag]; exact (hB.aa gQ).cell 1) ?_);refine T9 (V:=tV) Tryz.underlying157 (by kernel_rfl) (ZG.aa gQ) λw4 ajd k4 z4=>Or.inr ⟨rfl,hm,M,⟨⟨wp,wn,wc,mr,op,oc,os,(hB.aa gQ).ax k4 λhh=>d1 (show mr=b from hh.symm),(hW.aa gQ).ax k4 λi hi hh=>(d2 i hi).2 hh,ajd,(hO.aa gQ).ax k4 λi hi hh=>(d3 i hi).2.1 hh,m1,m2,m3,d1,d2,d3⟩,h.own,λi hi=>by have:=h.lt i hi; have:=gQ.size; omega,λx hx=>h.lv x (List.mem_of_mem_erase hx)⟩,λi hi=>Or.inl hi,(gQ.none (S:=M)).trans k4 λi _ hh=>by rw [show i=mr from hh]; exact m1⟩
end
end mT
namespace T
open Go Vc
def V36 (bM:Int) (bN:qA) (bE:Nat) (bG:Nat) (w:World) (R:qR):Prop:=
 cg w [qI bM,.slice bN bE bG] 24 λb2 w1=>
 qL w1 b2 0 λx4=>
 qC w1 b2 1 λx5 sS yU=>
 qb 33 [.agg #[qI x4,.slice x5 sS yU]] w1 λx6 w2=>
 bC (!x6) (
  R (.tuple #[.pointer none,qI 1]) w2) (
  qL w2 b2 0 λdR=>
  cl Tryz.prog 61 [qI dR] w2 λe13 w3=>∃fh:qA,∃dJ:Int,e13=Ending.returned (.tuple #[.pointer fh,qI dJ])/\
  qL w3.drew b2 0 λdV=>
  qL w3.drew b2 0 λeP=>
  (
   qo 62 [] w3.drew λfk w4=>
   (
    qL w4 b2 0 λgh=>
    ((qI gh:Value)=qI eP))/\
   (
    qL w4 b2 0 λic=>
    ((qI ic:Value)=qI dV))/\
   (
    ∃(eX:qA) (gA pN:Nat),∃w5:World,(Instr.makeSlice 111 (qI (IntKind.wrap .i64 (2*eP))) (qI (IntKind.wrap .i64 (2*eP)))).run Tryz.prog w4=.ok (.slice eX gA pN) w5/\
    (
     qL w5 b2 0 λj5=>
     ((qI j5:Value)=qI dV))/\
    cg w5 [.slice none 0 0] 114 λUe w6=>
    (
     qL w6 b2 0 λlR=>
     ((qI lR:Value)=qI eP))/\
    (
     qL w6 b2 0 λiV=>
     ((qI iV:Value)=qI dV))/\
    cg w6 [qI dV,.pointer fk,.pointer fh,.slice none 0 0,.slice eX gA pN,.slice none 0 0,.slice none 0 0,.iface 112 (qP Ue),qI 0,.bool false,.bool false,.bool false,qI 0] 120 λuD w7=>
    qC w7 b2 1 λiI ir jB=>
    lp (σ:=Int×Unit) (λs30 w8 ZK=>match s30 with
     | (v28,_)=>
     bC (decide (v28<(ir:Int))) (
      jn (σ:=Unit) (λL5=>
       cr iI ir v28 1 λp35=>
       aZ w8 p35 λtW lD lE=>
       qO w8 uD 1 λpg=>
       cl Tryz.prog 63 [.pointer pg,.slice tW lD lE,.bool false] w8 λe41 cK=>∃yh:Int,∃Dj:Int,e41=Ending.returned (.tuple #[qI yh,qI Dj])/\
       qb 64 [.slice tW lD lE] cK λpL dB=>
       bC pL (
        L5 (()) dB) (
        qc 65 [.slice tW lD lE] dB λtX L6 L7 dF=>
        cg dF [qI yh,.slice tX L6 L7,qI 0,qI 0,.bool false] 127 λsE eA=>
        qC eA sE 1 λvY AH Ek=>
        bC (decide ((AH:Int)<2)) (
         qC eA uD 5 λxN y9 AI=>
         cg eA [qP sE] 124 λb53 eG=>
         qp 115 #[.slice xN y9 AI,.slice (some (⟨b53,0,none⟩:Addr)) 1 1] eG λvG vZ v8 gT=>
         st gT (((⟨uD,0,none⟩:Addr).add 5).add 0) (.slice vG vZ v8) λeM=>
         L5 (()) eM) (
         qC eA.drew sE 1 λBq El L8=>
         cr Bq El 0 1 λp56=>
         aW .i64 eA.drew p56 λxe=>
         qC eA.drew sE 1 λBr y_ Cv=>
         cr Br y_ 1 1 λp59=>
         aW .i64 eA.drew p59 λvH=>
         qu 66 [qP uD,qP sE,qI xe,qI vH] eA.drew λfe=>
         L5 (()) fe))) λs33 w9=>match s33 with
      | (_)=>
      ZK ((IntKind.wrap .i64 (v28+1)),()) w9) (
      R (.tuple #[qP uD,qI 0]) w8)) (0,()) w7)/\
   (
    cg w4 [.slice none 0 0] 114 λb64 gB=>
    (
     qL gB b2 0 λBs=>
     ((qI Bs:Value)=qI eP))/\
    (
     qL gB b2 0 λv_=>
     ((qI v_:Value)=qI dV))/\
    ∃(Dk:qA) (L9 L_:Nat),∃fV:World,(Instr.makeSlice 111 (qI (IntKind.wrap .i64 (2*eP))) (qI (IntKind.wrap .i64 (2*eP)))).run Tryz.prog gB=.ok (.slice Dk L9 L_) fV/\
    (
     qL fV b2 0 λpU=>
     ((qI pU:Value)=qI dV))/\
    cg fV [qI dV,.pointer fk,.pointer fh,.slice none 0 0,.slice Dk L9 L_,.slice none 0 0,.slice none 0 0,.iface 112 (qP b64),qI 0,.bool false,.bool false,.bool false,qI 0] 120 λZL nF=>
    qC nF b2 1 λJO Ma Uf=>
    lp (σ:=Int×Unit) (λs74 og ZM=>match s74 with
     | (v72,_)=>
     bC (decide (v72<(Ma:Int))) (
      jn (σ:=Unit) (λk76=>
       cr JO Ma v72 1 λp79=>
       aZ og p79 λS_ Hx Hy=>
       qO og ZL 1 λPx=>
       cl Tryz.prog 63 [.pointer Px,.slice S_ Hx Hy,.bool false] og λe85 mV=>∃Ga:Int,∃x84:Int,e85=Ending.returned (.tuple #[qI Ga,qI x84])/\
       qb 64 [.slice S_ Hx Hy] mV λXh nG=>
       bC Xh (
        k76 (()) nG) (
        qc 65 [.slice S_ Hx Hy] nG λx90 Mb Mc jq=>
        cg jq [qI Ga,.slice x90 Mb Mc,qI 0,qI 0,.bool false] 127 λb92 za=>
        qC za b92 1 λXi Py Ug=>
        bC (decide ((Py:Int)<2)) (
         qC za ZL 5 λZN aje ajf=>
         cg za [qP b92] 124 λb97 Eo=>
         qp 115 #[.slice ZN aje ajf,.slice (some (⟨b97,0,none⟩:Addr)) 1 1] Eo λZO Uh Ui JP=>
         st JP (((⟨ZL,0,none⟩:Addr).add 5).add 0) (.slice ZO Uh Ui) λEp=>
         k76 (()) Ep) (
         qC za.drew b92 1 λMd ajg aox=>
         cr Md ajg 0 1 λajh=>
         aW .i64 za.drew ajh λZP=>
         qC za.drew b92 1 λPz PA Xj=>
         cr Pz PA 1 1 λaji=>
         aW .i64 za.drew aji λPB=>
         qu 66 [qP ZL,qP b92,qI ZP,qI PB] za.drew λxg=>
         k76 (()) xg))) λs77 xh=>match s77 with
      | (_)=>
      ZM ((IntKind.wrap .i64 (v72+1)),()) xh) (
      R (.tuple #[qP ZL,qI 0]) og)) (0,()) nF))/\
  (
   ∃(Me:qA) (PD PE:Nat),∃yp:World,(Instr.makeSlice 111 (qI (IntKind.wrap .i64 (2*eP))) (qI (IntKind.wrap .i64 (2*eP)))).run Tryz.prog w3.drew=.ok (.slice Me PD PE) yp/\
   (
    qL yp b2 0 λMf=>
    ((qI Mf:Value)=qI dV))/\
   (
    qo 62 [] yp λUj Er=>
    (
     qL Er b2 0 λajj=>
     ((qI ajj:Value)=qI eP))/\
    (
     qL Er b2 0 λZQ=>
     ((qI ZQ:Value)=qI dV))/\
    cg Er [.slice none 0 0] 114 λajk JQ=>
    (
     qL JQ b2 0 λUk=>
     ((qI Uk:Value)=qI eP))/\
    (
     qL JQ b2 0 λUl=>
     ((qI Ul:Value)=qI dV))/\
    cg JQ [qI dV,.pointer Uj,.pointer fh,.slice none 0 0,.slice Me PD PE,.slice none 0 0,.slice none 0 0,.iface 112 (qP ajk),qI 0,.bool false,.bool false,.bool false,qI 0] 120 λPF Et=>
    qC Et b2 1 λUm Xk an1=>
    lp (σ:=Int×Unit) (λajl Xl ajm=>match ajl with
     | (ZR,_)=>
     bC (decide (ZR<(Xk:Int))) (
      jn (σ:=Unit) (λZS=>
       cr Um Xk ZR 1 λajn=>
       aZ Xl ajn λsF nH nJ=>
       qO Xl PF 1 λPG=>
       cl Tryz.prog 63 [.pointer PG,.slice sF nH nJ,.bool false] Xl λZT Xm=>∃Mg:Int,∃Eu:Int,ZT=Ending.returned (.tuple #[qI Mg,qI Eu])/\
       qb 64 [.slice sF nH nJ] Xm λajo Un=>
       bC ajo (
        ZS (()) Un) (
        qc 65 [.slice sF nH nJ] Un λZU adH adI PI=>
        cg PI [qI Mg,.slice ZU adH adI,qI 0,qI 0,.bool false] 127 λPJ Mh=>
        qC Mh PJ 1 λUo adJ an2=>
        bC (decide ((adJ:Int)<2)) (
         qC Mh PF 5 λPK adK adL=>
         cg Mh [qP PJ] 124 λajp w41=>
         qp 115 #[.slice PK adK adL,.slice (some (⟨ajp,0,none⟩:Addr)) 1 1] w41 λajq adM adN ZV=>
         st ZV (((⟨PF,0,none⟩:Addr).add 5).add 0) (.slice ajq adM adN) λw43=>
         ZS (()) w43) (
         qC Mh.drew PJ 1 λZW adO an3=>
         cr ZW adO 0 1 λajr=>
         aW .i64 Mh.drew ajr λUp=>
         qC Mh.drew PJ 1 λUq JR PM=>
         cr Uq JR 1 1 λajs=>
         aW .i64 Mh.drew ajs λUr=>
         qu 66 [qP PF,qP PJ,qI Up,qI Ur] Mh.drew λw44=>
         ZS (()) w44))) λajt w36=>match ajt with
      | (_)=>
      ajm ((IntKind.wrap .i64 (ZR+1)),()) w36) (
      R (.tuple #[qP PF,qI 0]) Xl)) (0,()) Et)/\
   (
    cg yp [.slice none 0 0] 114 λaju w45=>
    (
     qL w45 b2 0 λZX=>
     ((qI ZX:Value)=qI eP))/\
    (
     qL w45 b2 0 λZY=>
     ((qI ZY:Value)=qI dV))/\
    qo 62 [] w45 λZZ w46=>
    (
     qL w46 b2 0 λZ0=>
     ((qI Z0:Value)=qI eP))/\
    (
     qL w46 b2 0 λZ1=>
     ((qI Z1:Value)=qI dV))/\
    cg w46 [qI dV,.pointer ZZ,.pointer fh,.slice none 0 0,.slice Me PD PE,.slice none 0 0,.slice none 0 0,.iface 112 (qP aju),qI 0,.bool false,.bool false,.bool false,qI 0] 120 λPN Xn=>
    qC Xn b2 1 λUt Xo an4=>
    lp (σ:=Int×Unit) (λajv w48 ajw=>match ajv with
     | (Z2,_)=>
     bC (decide (Z2<(Xo:Int))) (
      jn (σ:=Unit) (λZ3=>
       cr Ut Xo Z2 1 λajx=>
       aZ w48 ajx λPO PS PT=>
       qO w48 PN 1 λUu=>
       cl Tryz.prog 63 [.pointer Uu,.slice PO PS PT,.bool false] w48 λajy w50=>∃PU:Int,∃Uv:Int,ajy=Ending.returned (.tuple #[qI PU,qI Uv])/\
       qb 64 [.slice PO PS PT] w50 λUw w51=>
       bC Uw (
        Z3 (()) w51) (
        qc 65 [.slice PO PS PT] w51 λZ5 PV PW w52=>
        cg w52 [qI PU,.slice Z5 PV PW,qI 0,qI 0,.bool false] 127 λPX JS=>
        qC JS PX 1 λZ6 adP an5=>
        bC (decide ((adP:Int)<2)) (
         qC JS PN 5 λajz adQ adR=>
         cg JS [qP PX] 124 λHz w54=>
         qp 115 #[.slice ajz adQ adR,.slice (some (⟨Hz,0,none⟩:Addr)) 1 1] w54 λZ7 adS adT w55=>
         st w55 (((⟨PN,0,none⟩:Addr).add 5).add 0) (.slice Z7 adS adT) λw56=>
         Z3 (()) w56) (
         qC JS.drew PX 1 λZ8 PY Xp=>
         cr Z8 PY 0 1 λajA=>
         aW .i64 JS.drew ajA λZ9=>
         qC JS.drew PX 1 λUx adU an6=>
         cr Ux adU 1 1 λajB=>
         aW .i64 JS.drew ajB λUy=>
         qu 66 [qP PN,qP PX,qI Z9,qI Uy] JS.drew λw57=>
         Z3 (()) w57))) λajC w49=>match ajC with
      | (_)=>
      ajw ((IntKind.wrap .i64 (Z2+1)),()) w49) (
      R (.tuple #[qP PN,qI 0]) w48)) (0,()) Xn))/\
  (
   cg w3.drew [.slice none 0 0] 114 λadV w58=>
   (
    qL w58 b2 0 λZ_=>
    ((qI Z_:Value)=qI eP))/\
   (
    qL w58 b2 0 λaaa=>
    ((qI aaa:Value)=qI dV))/\
   (
    qo 62 [] w58 λaab w59=>
    (
     qL w59 b2 0 λUz=>
     ((qI Uz:Value)=qI eP))/\
    (
     qL w59 b2 0 λUA=>
     ((qI UA:Value)=qI dV))/\
    ∃(PZ:qA) (Xq Xr:Nat),∃UB:World,(Instr.makeSlice 111 (qI (IntKind.wrap .i64 (2*eP))) (qI (IntKind.wrap .i64 (2*eP)))).run Tryz.prog w59=.ok (.slice PZ Xq Xr) UB/\
    (
     qL UB b2 0 λUC=>
     ((qI UC:Value)=qI dV))/\
    cg UB [qI dV,.pointer aab,.pointer fh,.slice none 0 0,.slice PZ Xq Xr,.slice none 0 0,.slice none 0 0,.iface 112 (qP adV),qI 0,.bool false,.bool false,.bool false,qI 0] 120 λP0 Xs=>
    qC Xs b2 1 λajD Xt an7=>
    lp (σ:=Int×Unit) (λajE Xu ajF=>match ajE with
     | (aac,_)=>
     bC (decide (aac<(Xt:Int))) (
      jn (σ:=Unit) (λaad=>
       cr ajD Xt aac 1 λajG=>
       aZ Xu ajG λaae P3 P4=>
       qO Xu P0 1 λaaf=>
       cl Tryz.prog 63 [.pointer aaf,.slice aae P3 P4,.bool false] Xu λajH w64=>∃P5:Int,∃ajI:Int,ajH=Ending.returned (.tuple #[qI P5,qI ajI])/\
       qb 64 [.slice aae P3 P4] w64 λajJ w65=>
       bC ajJ (
        aad (()) w65) (
        qc 65 [.slice aae P3 P4] w65 λajK adW adX w66=>
        cg w66 [qI P5,.slice ajK adW adX,qI 0,qI 0,.bool false] 127 λP6 Ta=>
        qC Ta P6 1 λadY adZ an8=>
        bC (decide ((adZ:Int)<2)) (
         qC Ta P0 5 λajL ad0 ad1=>
         cg Ta [qP P6] 124 λajM w68=>
         qp 115 #[.slice ajL ad0 ad1,.slice (some (⟨ajM,0,none⟩:Addr)) 1 1] w68 λaag ad2 ad3 w69=>
         st w69 (((⟨P0,0,none⟩:Addr).add 5).add 0) (.slice aag ad2 ad3) λw70=>
         aad (()) w70) (
         qC Ta.drew P6 1 λajN ad4 an9=>
         cr ajN ad4 0 1 λajO=>
         aW .i64 Ta.drew ajO λajP=>
         qC Ta.drew P6 1 λaah P8 Xv=>
         cr aah P8 1 1 λajQ=>
         aW .i64 Ta.drew ajQ λajR=>
         qu 66 [qP P0,qP P6,qI ajP,qI ajR] Ta.drew λxk=>
         aad (()) xk))) λajS w63=>match ajS with
      | (_)=>
      ajF ((IntKind.wrap .i64 (aac+1)),()) w63) (
      R (.tuple #[qP P0,qI 0]) Xu)) (0,()) Xs)/\
   (
    ∃(UD:qA) (Xw Xx:Nat),∃w72:World,(Instr.makeSlice 111 (qI (IntKind.wrap .i64 (2*eP))) (qI (IntKind.wrap .i64 (2*eP)))).run Tryz.prog w58=.ok (.slice UD Xw Xx) w72/\
    (
     qL w72 b2 0 λaai=>
     ((qI aai:Value)=qI dV))/\
    qo 62 [] w72 λMi Cw=>
    (
     qL Cw b2 0 λaaj=>
     ((qI aaj:Value)=qI eP))/\
    (
     qL Cw b2 0 λMj=>
     ((qI Mj:Value)=qI dV))/\
    cg Cw [qI dV,.pointer Mi,.pointer fh,.slice none 0 0,.slice UD Xw Xx,.slice none 0 0,.slice none 0 0,.iface 112 (qP adV),qI 0,.bool false,.bool false,.bool false,qI 0] 120 λP9 w74=>
    qC w74 b2 1 λP_ Xy aoa=>
    lp (σ:=Int×Unit) (λajT w75 ajU=>match ajT with
     | (aak,_)=>
     bC (decide (aak<(Xy:Int))) (
      jn (σ:=Unit) (λaal=>
       cr P_ Xy aak 1 λajV=>
       aZ w75 ajV λQa Ew Ex=>
       qO w75 P9 1 λajW=>
       cl Tryz.prog 63 [.pointer ajW,.slice Qa Ew Ex,.bool false] w75 λajX w77=>∃UE:Int,∃Ml:Int,ajX=Ending.returned (.tuple #[qI UE,qI Ml])/\
       qb 64 [.slice Qa Ew Ex] w77 λQb w78=>
       bC Qb (
        aal (()) w78) (
        qc 65 [.slice Qa Ew Ex] w78 λajY ad5 ad6 w79=>
        cg w79 [qI UE,.slice ajY ad5 ad6,qI 0,qI 0,.bool false] 127 λQc Xz=>
        qC Xz Qc 1 λaoy ad7 aob=>
        bC (decide ((ad7:Int)<2)) (
         qC Xz P9 5 λajZ ad8 ad9=>
         cg Xz [qP Qc] 124 λaj0 w81=>
         qp 115 #[.slice ajZ ad8 ad9,.slice (some (⟨aj0,0,none⟩:Addr)) 1 1] w81 λaj1 aea aeb w82=>
         st w82 (((⟨P9,0,none⟩:Addr).add 5).add 0) (.slice aj1 aea aeb) λw83=>
         aal (()) w83) (
         qC Xz.drew Qc 1 λaj2 aec aoc=>
         cr aj2 aec 0 1 λaj3=>
         aW .i64 Xz.drew aj3 λaj4=>
         qC Xz.drew Qc 1 λaj5 aed aod=>
         cr aj5 aed 1 1 λaj6=>
         aW .i64 Xz.drew aj6 λaj7=>
         qu 66 [qP P9,qP Qc,qI aj4,qI aj7] Xz.drew λw84=>
         aal (()) w84))) λaj8 w76=>match aj8 with
      | (_)=>
      ajU ((IntKind.wrap .i64 (aak+1)),()) w76) (
      R (.tuple #[qP P9,qI 0]) w75)) (0,()) w74)))
theorem Mm (bM bN bE bG w R) (h:V36 bM bN bE bG w R):qE 36 #[.agg #[qI bM,.slice bN bE bG]] w R:=qv (.s .l (.s (.s .l (.c (.s .l .l) .l)) (.s .l (.s (.d [0,1,0,0,0,16,48,112,0,256,768,2047,4095,8191]) (.s (.s .l (.b (.o [(37,.one (.int .i64))] (.s .l (.s (.c .l .l) (.s (.j [] (.b (.s .l (.s .l (.s (.s .l (.c .l .l)) (.s .l (.s (.s .l (.c (.s .l .l) .l)) (.d [0,0,0,4,12,28,60,124,0,256,768,1792,3840,7936,16383])))))))) .l)))))) (.s .l .l)))))) Tryz.func36 (by kernel_rfl) (by kernel_rfl) h
theorem aj9:br qQ 36:=by kernel_rfl
def aee (a0:qA) (a1:Int) (w:World) (R:qR):Prop:=
 qb 95 [qI a1] w.drew λx2 w1=>
 gd (α:=Addr) (!(!x2)) (λk4=>
  nn a0 λp5=>
  k4 p5 w1) ⟨0,0,none⟩ w1 λx6 _=>
 gd (α:=Int) (!(!x2)) (λk7=>
  aW .i64 w1 (x6.add 0) λx8=>
  k7 x8 w1) 0 w1 λx9 _=>
 gd (α:=Int) (!(!x2)) (λfD=>
  qi 94 [qI a1] w1 λfh w2=>
  fD fh w2) 0 w1 λeV w3=>
 ((!(!x2))=true->
  aW .i64 w3 (x6.add 0) λdV=>
  ((qI dV:Value)=qI x9))/\
 bC (cond (!x2) true (decide (eV>x9))) (
  R (qI 1) w3) (
  nn a0 λDi=>
  Aj w3 (Di.add 9) λgh=>
  bC (!gh) (
   R (qI 3) w3) (
   nn a0 λTU=>
   iF w3 (TU.add 2) λiU=>
   cl Tryz.prog 115 [.pointer iU,qI a1] w3 λe24 w4=>∃lR:Int,e24=Ending.returned (.int .i8 lR)/\
   bC (lR != 0) (
    R (qI 50) w4) (
    nn a0 λp27=>
    iF w4 (p27.add 2) λjN=>
    qi 149 [.pointer jN,qI a1] w4 λjo w5=>
    nn a0 λp32=>
    aZ w5 (p32.add 3) λrJ UF UG=>
    cg w5 [qI a1] 3 λb34 w6=>
    qp 59 #[.slice rJ UF UG,.slice (some (⟨b34,0,none⟩:Addr)) 1 1] w6 λlZ jk j9 w7=>
    nn a0 λAJ=>
    st w7 ((AJ.add 3).add 0) (.slice lZ jk j9) λw8=>
    nn a0 λp38=>
    st w8 ((p38.add 9).add 0) (.bool false) λw9=>
    R (qI 0) w9)))
theorem HA (a0 a1 w R) (h:aee a0 a1 w R):qE 118 #[.pointer a0,qI a1] w R:=qv (.s .l (.s (.b (.s (.d [0,1,3,7,15,31,15,79,207,463,1023,2047,4095]) (.c (.s .l .l) (.s .l (.c (.s .l .l) (.s .l (.c (.s .l .l) .l))))))) (.s .l (.s .l (.s .l (.s .l .l)))))) Tryz.func118 (by kernel_rfl) (by kernel_rfl) h
theorem aef:br qQ 118:=by kernel_rfl
def V73 (a0:qA) (w:World) (R:qR):Prop:=
 nn a0 λp3=>
 Aj w (p3.add 11) λx4=>
 gd (α:=Addr) (!x4) (λk5=>
  nn a0 λp6=>
  k5 p6 w) ⟨0,0,none⟩ w λx7 w1=>
 gd (α:=Bool) (!x4) (λk8=>
  Aj w1 (x7.add 10) λx9=>
  k8 x9 w1) false w1 λdR w2=>
 bC (cond x4 true dR) (
  R (.bool false) w2) (
  jn (σ:=Bool×Unit) (λlq=>
   qi 110 [.pointer a0] w2 λfL w4=>
   bC (fL==0) (
    nn a0 λJz=>
    aZ w4 (Jz.add 5) λj5 Ch LF=>
    lp (σ:=Bool×Int×Unit) (λs25 w5 oA=>match s25 with
     | (v22,v23,_)=>
     bC (decide (v23<(Ch:Int))) (
      cr j5 Ch v23 1 λHi=>
      iF w5 Hi λjo=>
      gd (α:=Bool) v22 (λMn=>
       qb 111 [.pointer a0,.pointer jo] w5 λig w6=>
       Mn ig w6) false w5 λo_ w7=>
      oA ((cond v22 o_ false),(IntKind.wrap .i64 (v23+1)),()) w7) (
      lq (v22,()) w5)) (true,0,()) w4) (
    lq (true,()) w4)) λs15 w3=>match s15 with
  | (v13,_)=>
  lp (σ:=Bool×Unit) (λs38 w8 Mq=>match s38 with
   | (XA,_)=>
   gd (α:=Addr) XA (λTb=>
    nn a0 λG_=>
    Tb G_ w8.drew) ⟨0,0,none⟩ w8.drew λtY _=>
   gd (α:=Int) XA (λk42=>
    aW .i64 w8.drew (tY.add 8) λpL=>
    k42 pL w8.drew) 0 w8.drew λj_ _=>
   gd (α:=Addr) XA (λk45=>
    nn a0 λN7=>
    k45 N7 w8.drew) ⟨0,0,none⟩ w8.drew λnA _=>
   gd (α:=(qA×Nat×Nat)) XA (λk48=>
    aZ w8.drew (nA.add 3) λng uE uF=>
    k48 (ng,uE,uF) w8.drew) (none,0,0) w8.drew λvY _=>
   bC (cond XA (decide (j_<(vY.2.1:Int))) false) (
    nn a0 λp51=>
    aZ w8.drew.drew (p51.add 3) λxN y9 AI=>
    nn a0 λp53=>
    aW .i64 w8.drew.drew (p53.add 8) λvG=>
    cr xN y9 vG 1 λp55=>
    aW .i64 w8.drew.drew p55 λBt=>
    nn a0 λUH=>
    aW .i64 w8.drew.drew (UH.add 8) λxl=>
    nn a0 λp60=>
    st w8.drew.drew ((p60.add 8).add 0) (qI (IntKind.wrap .i64 (xl+1))) λw9=>
    qb 112 [.pointer a0,qI (IntKind.wrap .i64 (0 - Bt))] w9 λzb cK=>
    Mq (zb,()) cK) (
    nn a0 λp65=>
    st w8.drew ((p65.add 9).add 0) (.bool XA) λdB=>
    nn a0 λp66=>
    st dB ((p66.add 10).add 0) (.bool (!XA)) λdF=>
    R (.bool XA) dF)) (v13,()) w3)
theorem Mr (a0 w R) (h:V73 a0 w R):qE 73 #[.pointer a0] w R:=qv (.s .l (.s (.s .l (.c (.s .l .l) .l)) (.s .l (.s (.j [(3,.one (.bool))] (.s .l (.c (.s .l (.b (.o [(3,.one (.bool)),(25,.one (.int .i64))] (.s .l (.s (.c .l .l) (.s (.b (.s .l .l)) .l)))))) .l))) (.s (.b (.o [(3,.one (.bool))] (.s (.s (.d [0,1,3,7,15,31,3,67,195,451,963,2047,4095]) (.c .l .l)) (.b (.s (.d [0,1,3,7,0,16,48,112,255,511,1023]) (.s .l .l)))))) (.s .l (.s .l .l))))))) Tryz.func73 (by kernel_rfl) (by kernel_rfl) h
theorem aeg:br qQ 73:=by kernel_rfl
def aeh (a0:qA) (a1:Int) (w:World) (R:qR):Prop:=
 nn a0 λp3=>
 Aj w (p3.add 9) λx4=>
 bC (!x4) (
  R (qI 3) w) (
  gd (α:=Addr) (!(decide (a1<0))) (λk7=>
   nn a0 λp8=>
   k7 p8 w) ⟨0,0,none⟩ w λx9 w1=>
  gd (α:=(qA×Nat×Nat)) (!(decide (a1<0))) (λfD=>
   aZ w1 (x9.add 6) λfh vU xK=>
   fD (fh,vU,xK) w1) (none,0,0) w1 λdJ w2=>
  bC (cond (decide (a1<0)) true (decide (a1 >= (dJ.2.1:Int)))) (
   R (qI 2) w2) (
   nn a0 λqs=>
   aZ w2 (qs.add 6) λfk k_ sA=>
   cr fk k_ a1 1 λDi=>
   iF w2 Di λgh=>
   qb 179 [.pointer a0,.pointer gh] w2 λeX w3=>
   gd (α:=Bool) (!eX) (λEy=>
    qb 180 [.pointer a0,.pointer gh] w3 λlR w4=>
    Ey lR w4) false w3 λiT w5=>
   bC (cond eX true iT) (
    R (qI 160) w5) (
    nn gh λHi=>
    st w5 ((Hi.add 4).add 0) (.bool true) λw6=>
    nn a0 λZs=>
    iF w6.drew (Zs.add 1) λm_=>
    nn gh λLy=>
    aW .i64 w6.drew (Ly.add 0) λig=>
    qi 181 [.pointer m_,qI ig] w6.drew λrJ w7=>
    nn a0 λAJ=>
    aZ w7 (AJ.add 6) λnh qJ uG=>
    qc 182 [.slice nh qJ uG,qI a1,qI (IntKind.wrap .i64 (a1+1))] w7 λpg Mt Mu w8=>
    nn a0 λG_=>
    st w8 ((G_.add 6).add 0) (.slice pg Mt Mu) λw9=>
    nn a0 λp41=>
    nZ w9.drew (p41.add 7) λoC=>
    nn gh λp43=>
    aZ w9.drew (p43.add 1) λj_ gM iJ=>
    nkA (oC)=true/\
    qc 142 [.slice j_ gM iJ] w9.drew λyq Ez EA cK=>
    (
     nZ cK (p41.add 7) λnA=>
     ((nA:Value)=oC))/\
    Za Tryz.prog (oC) "depot/engine.note" [.agg #[.bool true, .slice yq Ez EA]] cK fun e48 dB => e48 = Ending.returned (.tuple #[]) ∧
    R (qI 0) dB)))
theorem HB (a0 a1 w R) (h:aeh a0 a1 w R):qE 148 #[.pointer a0,qI a1] w R:=qv (.s .l (.s (.b (.s .l (.c (.s .l .l) (.s .l (.c (.s .l .l) .l))))) (.s .l (.s (.s .l (.c (.s .l .l) .l)) (.s .l (.s (.d [0,1,3,7,0,16,48,112,255]) (.s .l (.s (.d [0,1,3,7,0,16,48,112,240,496,15,1039,4095]) (.s .l .l))))))))) Tryz.func148 (by kernel_rfl) (by kernel_rfl) h
theorem aei:br qQ 148:=by kernel_rfl
def aam (a0:qA) (w:World) (R:qR):Prop:=
 nn a0 λp3=>
 Aj w (p3.add 10) λx4=>
 bC (!x4) (
  R (.tuple #[.slice none 0 0,qI 0,qI 3]) w) (
  nn a0 λp7=>
  st w ((p7.add 10).add 0) (.bool false) λw1=>
  qc 113 [.pointer a0] w1 λx9 yg Bm w2=>
  nn a0 λrF=>
  iF w2.drew (rF.add 1) λdJ=>
  nn a0 λrG=>
  aW .i64 w2.drew (rG.add 12) λdV=>
  cl Tryz.prog 139 [.pointer dJ,qI dV] w2.drew λe17 w3=>∃(eP:qA) (nK uH:Nat),∃fk:Bool,e17=Ending.returned (.tuple #[.slice eP nK uH,.bool fk])/\
  cl Tryz.prog 140 [.slice x9 yg Bm,.slice eP nK uH] w3 λe22 w4=>∃(ic:qA) (vV yV:Nat),∃eX:Int,∃j5:Int,e22=Ending.returned (.tuple #[.slice ic vV yV,qI eX,qI j5])/\
  bC ((vV:Int)==0) (
   nn a0 λJC=>
   st w4 ((JC.add 11).add 0) (.bool true) λw5=>
   nn a0 λp27=>
   nZ w5 (p27.add 7) λjN=>
   Za Tryz.prog (jN) "depot/engine.note" [.agg #[.bool false, .slice none 0 0]] w5 fun e29 w6 => e29 = Ending.returned (.tuple #[]) ∧
   R (.tuple #[.slice none 0 0,qI (-1),qI 0]) w6) (
   cl Tryz.prog 141 [.slice x9 yg Bm,.slice ic vV yV] w4 λe34 w7=>∃(ig:qA) (tZ xO:Nat),∃rJ:Int,e34=Ending.returned (.tuple #[.slice ig tZ xO,qI rJ])/\
   nn a0 λAJ=>
   nZ w7 (AJ.add 7) λnh=>
   Za Tryz.prog (nh) "depot/engine.note" [.agg #[.bool false, .slice ig tZ xO]] w7 fun e38 w8 => e38 = Ending.returned (.tuple #[]) ∧
   nn a0 λG_=>
   iF w8 (G_.add 1) λtY=>
   cl Tryz.prog 63 [.pointer tY,.slice ig tZ xO,.bool true] w8 λe44 w9=>∃oC:Int,∃pL:Int,e44=Ending.returned (.tuple #[qI oC,qI pL])/\
   qc 142 [.slice ig tZ xO] w9 λtX L6 L7 cK=>
   cg cK [qI oC,.slice tX L6 L7,qI 0,qI 0,.bool false] 127 λsE dB=>
   nn a0 λp50=>
   aZ dB (p50.add 6) λxM AD vW=>
   cg dB [qP sE] 124 λb52 dF=>
   qp 115 #[.slice xM AD vW,.slice (some (⟨b52,0,none⟩:Addr)) 1 1] dF λAK qK sG eA=>
   nn a0 λp54=>
   st eA ((p54.add 6).add 0) (.slice AK qK sG) λeG=>
   jn (σ:=Unit) (λUI=>
    bC (decide ((tZ:Int)>1)) (
     cr ig tZ 0 1 λUH=>
     aW .i64 eG.drew UH λxl=>
     (0:Int)<=1/\1<=(tZ:Int)/\
     qi 143 [.slice (jZ ig xO (Int.toNat 1) 1) (tZ - (Int.toNat 1)) (xO - (Int.toNat 1)),.func (.func 144) #[.pointer a0] #[]] eG.drew λvH eM=>
     (
      aW .i64 eM UH λzb=>
      ((qI zb:Value)=qI xl))/\
     qu 66 [.pointer a0,qP sE,qI xl,qI vH] eM λfe=>
     UI (()) fe) (
     UI (()) eG)) λs56 gT=>match s56 with
   | (_)=>
   qu 145 [.pointer a0,qI eX] gT λgB=>
   cr ig tZ 0 1 λp67=>
   aW .i64 gB p67 λpU=>
   qu 135 [.pointer a0,qI pU,qP sE] gB λfV=>
   R (.tuple #[.slice ig tZ xO,qI eX,qI 0]) fV))
theorem ze (a0 w R) (h:aam a0 w R):qE 114 #[.pointer a0] w R:=qv (.s .l (.s (.s .l (.c (.s .l .l) .l)) (.s .l (.s .l (.s (.d [0,1,3,7,0,16,48,112,255,511,1023,1023,2047,8191]) (.s .l (.s (.s .l (.c (.s .l (.s .l (.s .l .l))) .l)) (.s .l (.s .l (.s .l (.s .l (.s .l (.s (.j [] (.s .l (.c (.d [0,0,0,4,12,0,32,0,128,480,1023]) .l))) (.s .l (.s .l (.s .l .l)))))))))))))))) Tryz.func114 (by kernel_rfl) (by kernel_rfl) h
theorem aej:br qQ 114:=by kernel_rfl
def V75 (a0:qA) (w:World) (R:qR):Prop:=
 nn a0 λp3=>
 Aj w (p3.add 11) λx4=>
 R (.bool x4) w
theorem Mv (a0 w R) (h:V75 a0 w R):qE 75 #[.pointer a0] w R:=qv (.s .l (.s .l .l)) Tryz.func75 (by kernel_rfl) (by kernel_rfl) h
theorem aek:br qQ 75:=by kernel_rfl
def ael (a0:qA) (w:World) (R:qR):Prop:=
 nn a0 λp4=>
 aZ w (p4.add 6) λx5 sS yU=>
 lp (σ:=(qA×Nat×Nat)×Int×Unit) (λs9 w1 k8=>match s9 with
  | ((v6,XB,XC),v7,_)=>
  bC (decide (v7<(sS:Int))) (
   cr x5 sS v7 1 λsU=>
   iF w1 sU λeV=>
   nn eV λqs=>
   aZ w1 (qs.add 1) λfk k_ sA=>
   qc 142 [.slice fk k_ sA] w1 λfL lY pJ w2=>
   cg w2 [.slice fL lY pJ] 59 λEB w3=>
   qp 22 #[.slice v6 XB XC,.slice (some (⟨EB,0,none⟩:Addr)) 1 1] w3 λeX gA pN w4=>
   k8 ((eX,gA,pN),(IntKind.wrap .i64 (v7+1)),()) w4) (
   R (.slice v6 XB XC) w1)) ((none,0,0),0,()) w
theorem HC (a0 w R) (h:ael a0 w R):qE 147 #[.pointer a0] w R:=qv (.s .l (.s .l (.s (.s .l (.b (.o [(3,.one (.x_)),(11,.one (.int .i64))] (.s .l (.s (.c .l .l) (.s (.b (.s .l .l)) .l)))))) (.s .l .l)))) Tryz.func147 (by kernel_rfl) (by kernel_rfl) h
theorem aem:br qQ 147:=by kernel_rfl
def V77 (a0:qA) (w:World) (R:qR):Prop:=
 nn a0 λp2=>
 Aj w.drew (p2.add 9) λx3=>
 gd (α:=Addr) (!(!x3)) (λk4=>
  nn a0 λp5=>
  k4 p5 w.drew) ⟨0,0,none⟩ w.drew λx6 _=>
 gd (α:=(qA×Nat×Nat)) (!(!x3)) (λk7=>
  aZ w.drew (x6.add 3) λx8 Ca Cb=>
  k7 (x8,Ca,Cb) w.drew) (none,0,0) w.drew λx9 _=>
 gd (α:=Addr) (!(!x3)) (λfD=>
  nn a0 λrF=>
  fD rF w.drew) ⟨0,0,none⟩ w.drew λdJ _=>
 gd (α:=Int) (!(!x3)) (λgQ=>
  aW .i64 w.drew (dJ.add 0) λdV=>
  gQ dV w.drew) 0 w.drew λeP _=>
 bC (cond (!x3) true (decide ((x9.2.1:Int)<eP))) (
  R (.tuple #[.slice none 0 0,.bool false]) w.drew) (
  nn a0 λN6=>
  aW .i64 w.drew (N6.add 0) λic=>
  ∃(eX:qA) (gA pN:Nat),∃w1:World,(Instr.makeSlice 30 (qI ic) (qI ic)).run Tryz.prog w.drew=.ok (.slice eX gA pN) w1/\
  lp (σ:=Int×Unit) (λs24 w2 uI=>match s24 with
   | (v22,_)=>
   bC (decide (v22<(gA:Int))) (
    nn a0 λHi=>
    iF w2 (Hi.add 2) λjo=>
    cl Tryz.prog 115 [.pointer jo,qI (IntKind.wrap .i64 (v22+1))] w2 λe31 w3=>∃m_:Int,e31=Ending.returned (.int .i8 m_)/\
    cr eX gA v22 1 λp32=>
    st w3 (p32.add 0) (.bool (decide (m_>0))) λw4=>
    uI ((IntKind.wrap .i64 (v22+1)),()) w4) (
    R (.tuple #[.slice eX gA pN,.bool true]) w2)) (0,()) w1)
theorem Mw (a0 w R) (h:V77 a0 w R):qE 77 #[.pointer a0] w R:=qv (.s .l (.s (.s (.d [0,1,3,7,15,31,63,127,255,511,1023,63,2111,6207,14399,32767,65535]) (.c (.s .l .l) .l)) (.s .l (.s (.s .l (.b (.o [(30,.one (.int .i64))] (.s .l (.s (.c .l .l) (.s (.b (.s .l .l)) .l)))))) (.s .l .l))))) Tryz.func77 (by kernel_rfl) (by kernel_rfl) h
theorem aka:br qQ 77:=by kernel_rfl
def V66 (a0:qA) (a1:qA) (a2:Int) (a3:Int) (w:World) (R:qR):Prop:=
 nn a1 λp2=>
 st w ((p2.add 2).add 0) (qI a2) λw1=>
 st w1 ((p2.add 2).add 1) (qI a3) λw2=>
 nn a1 λp4=>
 aW .i64 w2 ((p4.add 2).add 0) λx5=>
 aW .i64 w2 ((p4.add 2).add 1) λx6=>
 lp (σ:=Int×Unit) (λs9 w3 k8=>match s9 with
  | (v7,_)=>
  bC (decide (v7<2)) (
   (0:Int)<=v7/\v7<((2:Nat):Int)/\∃dJ:Int,([qI x5,qI x6]:List Value)[(Int.toNat v7)]?=some (qI dJ)/\
   nn a0 λrG=>
   aZ w3.drew (rG.add 4) λdV fM gU=>
   nn a0 λqs=>
   aZ w3.drew (qs.add 4) λfk k_ sA=>
   (
    qi 99 [qI dJ] w3.drew λfL w4=>
    (
     aZ w4 (qs.add 4) λic vV yV=>
     ((.slice ic vV yV:Value)=.slice fk k_ sA))/\
    (
     aZ w4 (rG.add 4) λeX gA pN=>
     ((.slice eX gA pN:Value)=.slice dV fM gU))/\
    (
     qi 99 [qI dJ] w4 λj5 w5=>
     (
      aZ w5 (qs.add 4) λlR Az AA=>
      ((.slice lR Az AA:Value)=.slice fk k_ sA))/\
     (
      aZ w5 (rG.add 4) λiV xP zf=>
      ((.slice iV xP zf:Value)=.slice dV fM gU))/\
     cr fk k_ j5 1 λJC=>
     aZ w5 JC λjj AE Ci=>
     cg w5 [.pointer a1] 124 λb27 w6=>
     (
      aZ w6 JC λjN akb akc=>
      ((.slice jN akb akc:Value)=.slice jj AE Ci))/\
     (
      aZ w6 (qs.add 4) λjo aan aao=>
      ((.slice jo aan aao:Value)=.slice fk k_ sA))/\
     (
      aZ w6 (rG.add 4) λm_ Cg G9=>
      ((.slice m_ Cg G9:Value)=.slice dV fM gU))/\
     qp 115 #[.slice jj AE Ci,.slice (some (⟨b27,0,none⟩:Addr)) 1 1] w6 λuJ aap aaq w7=>
     (
      aZ w7 (rG.add 4) λig tZ xO=>
      ((.slice ig tZ xO:Value)=.slice dV fM gU))/\
     cr dV fM fL 1 λp33=>
     st w7 (p33.add 0) (.slice uJ aap aaq) λw8=>
     k8 ((IntKind.wrap .i64 (v7+1)),()) w8)/\
    (
     cg w4 [.pointer a1] 124 λb35 w9=>
     (
      aZ w9 (qs.add 4) λtW lD lE=>
      ((.slice tW lD lE:Value)=.slice fk k_ sA))/\
     (
      aZ w9 (rG.add 4) λnh qJ uG=>
      ((.slice nh qJ uG:Value)=.slice dV fM gU))/\
     qi 99 [qI dJ] w9 λpg cK=>
     (
      aZ cK (qs.add 4) λDj aar aas=>
      ((.slice Dj aar aas:Value)=.slice fk k_ sA))/\
     (
      aZ cK (rG.add 4) λtY aat aau=>
      ((.slice tY aat aau:Value)=.slice dV fM gU))/\
     cr fk k_ pg 1 λp42=>
     aZ cK p42 λpL He Hf=>
     qp 115 #[.slice pL He Hf,.slice (some (⟨b35,0,none⟩:Addr)) 1 1] cK λj_ gM iJ dB=>
     (
      aZ dB (rG.add 4) λyq Ez EA=>
      ((.slice yq Ez EA:Value)=.slice dV fM gU))/\
     cr dV fM fL 1 λN7=>
     st dB (N7.add 0) (.slice j_ gM iJ) λdF=>
     k8 ((IntKind.wrap .i64 (v7+1)),()) dF))/\
   (
    cg w3.drew [.pointer a1] 124 λsE eA=>
    (
     aZ eA (qs.add 4) λng uE uF=>
     ((.slice ng uE uF:Value)=.slice fk k_ sA))/\
    (
     aZ eA (rG.add 4) λvY AH Ek=>
     ((.slice vY AH Ek:Value)=.slice dV fM gU))/\
    qi 99 [qI dJ] eA λxM eG=>
    (
     aZ eG (qs.add 4) λAK qK sG=>
     ((.slice AK qK sG:Value)=.slice fk k_ sA))/\
    (
     aZ eG (rG.add 4) λvG vZ v8=>
     ((.slice vG vZ v8:Value)=.slice dV fM gU))/\
    qi 99 [qI dJ] eG λBq gT=>
    (
     aZ gT (qs.add 4) λxe Qd Qe=>
     ((.slice xe Qd Qe:Value)=.slice fk k_ sA))/\
    (
     aZ gT (rG.add 4) λBr y_ Cv=>
     ((.slice Br y_ Cv:Value)=.slice dV fM gU))/\
    cr fk k_ Bq 1 λp59=>
    aZ gT p59 λvH Cx Cy=>
    qp 115 #[.slice vH Cx Cy,.slice (some (⟨sE,0,none⟩:Addr)) 1 1] gT λHD Qf Qg eM=>
    (
     aZ eM (rG.add 4) λzb Qh UJ=>
     ((.slice zb Qh UJ:Value)=.slice dV fM gU))/\
    cr dV fM xM 1 λp63=>
    st eM (p63.add 0) (.slice HD Qf Qg) λfe=>
    k8 ((IntKind.wrap .i64 (v7+1)),()) fe)) (
   R (.tuple #[]) w3)) (0,()) w2
theorem My (a0 a1 a2 a3 w R) (h:V66 a0 a1 a2 a3 w R):qE 66 #[.pointer a0,.pointer a1,qI a2,qI a3] w R:=qv (.s .l (.s .l (.b (.o [(20,.one (.int .i64))] (.s .l (.s (.c .l .l) (.s (.b (.s .l (.d [0,1,3,7,0,16,0,64,192,448,0,1072,4080,8176,0,16384,65520,131071,262143]))) .l))))))) Tryz.func66 (by kernel_rfl) (by kernel_rfl) h
theorem aen:br qQ 66:=by kernel_rfl
def aeo (a0:qA) (w:World) (R:qR):Prop:=
 nn a0 λp3=>
 iF w (p3.add 2) λx4=>
 qi 134 [.pointer x4] w λx5 w1=>
 R (qI x5) w1
theorem HE (a0 w R) (h:aeo a0 w R):qE 110 #[.pointer a0] w R:=qv (.s .l (.s .l .l)) Tryz.func110 (by kernel_rfl) (by kernel_rfl) h
theorem aep:br qQ 110:=by kernel_rfl
def aeq (a0:qA) (a1:qA) (w:World) (R:qR):Prop:=
 nn a1 λp3=>
 aZ w (p3.add 1) λx4 lQ sy=>
 lp (σ:=Int×Unit) (λs7 w1 k6=>match s7 with
  | (v5,_)=>
  bC (decide (v5<(lQ:Int))) (
   cr x4 lQ v5 1 λxJ=>
   aW .i64 w1 xJ λfh=>
   nn a0 λrG=>
   iF w1 (rG.add 2) λdV=>
   cl Tryz.prog 115 [.pointer dV,qI fh] w1 λe16 w2=>∃eP:Int,e16=Ending.returned (.int .i8 eP)/\
   bC (eP==1) (
    R (.bool true) w2) (
    bC (eP==0) (
     qu 135 [.pointer a0,qI fh,.pointer a1] w2 λw3=>
     R (.bool true) w3) (
     k6 ((IntKind.wrap .i64 (v5+1)),()) w2))) (
   nn a1 λJC=>
   aW .i64 w1 (JC.add 0) λjj=>
   nn a0 λp27=>
   st w1 ((p27.add 12).add 0) (qI jj) λw4=>
   R (.bool false) w4)) (0,()) w
theorem HG (a0 a1 w R) (h:aeq a0 a1 w R):qE 111 #[.pointer a0,.pointer a1] w R:=qv (.s .l (.s (.s .l (.b (.o [(12,.one (.int .i64))] (.s .l (.s (.c .l .l) (.s (.b (.s .l (.s .l (.b (.s .l (.c (.s .l .l) (.s .l (.c (.s .l (.s .l .l)) .l)))))))) .l)))))) (.s .l (.s .l .l)))) Tryz.func111 (by kernel_rfl) (by kernel_rfl) h
theorem aer:br qQ 111:=by kernel_rfl
def aes (a0:qA) (a1:Int) (w:World) (R:qR):Prop:=
 qi 99 [qI a1] w λx3 w1=>
 nn a0 λp6=>
 aZ w1 (p6.add 4) λx7 wZ Bj=>
 cr x7 wZ x3 1 λp8=>
 aZ w1 p8 λx9 yg Bm=>
 nn a0 λrF=>
 aZ w1 (rF.add 4) λdJ mP qw=>
 cr dJ mP x3 1 λrG=>
 st w1 (rG.add 0) (.slice none 0 0) λw2=>
 lp (σ:=Bool×(qA×Nat×Nat)×Int×Unit) (λs21 w3 k20=>match s21 with
  | (v17,(v18,aav,aaw),v19,_)=>
  bC (decide (v19<(yg:Int))) (
   jn (σ:=Bool×(qA×Nat×Nat)×Unit) (λpK=>
    cr x9 yg v19 1 λHi=>
    iF w3 Hi λjo=>
    nn jo λLy=>
    Aj w3 (Ly.add 4) λig=>
    gd (α:=Bool) ((!ig)&&v17) (λk33=>
     qb 136 [.pointer a0,.pointer jo,qI a1] w3 λo_ w5=>
     k33 o_ w5) false w3 λtW w6=>
    bC (cond ig true (cond v17 tW false)) (
     pK (v17,(v18,aav,aaw),()) w6) (
     cg w6 [.pointer jo] 124 λb38 w7=>
     qp 115 #[.slice v18 aav aaw,.slice (some (⟨b38,0,none⟩:Addr)) 1 1] w7 λyh LA O7 w8=>
     qi 137 [.pointer jo,qI a1] w8 λtY w9=>
     bC (!v17) (
      pK (v17,(yh,LA,O7),()) w9) (
      nn a0 λp45=>
      iF w9 (p45.add 2) λtX=>
      cl Tryz.prog 115 [.pointer tX,qI tY] w9 λe48 cK=>∃nA:Int,e48=Ending.returned (.int .i8 nA)/\
      bC (decide (nA<0)) (
       nn jo λp51=>
       aW .i64 cK (p51.add 0) λxN=>
       nn a0 λp53=>
       st cK ((p53.add 12).add 0) (qI xN) λdB=>
       pK (false,(yh,LA,O7),()) dB) (
       nn a0 λp55=>
       iF cK (p55.add 2) λBt=>
       cl Tryz.prog 115 [.pointer Bt,qI tY] cK λe58 dF=>∃xe:Int,e58=Ending.returned (.int .i8 xe)/\
       bC (xe==0) (
        qu 135 [.pointer a0,qI tY,.pointer jo] dF λeA=>
        pK (v17,(yh,LA,O7),()) eA) (
        pK (v17,(yh,LA,O7),()) dF))))) λs26 w4=>match s26 with
   | (v23,(v24,akd,ake),_)=>
   k20 (v23,(v24,akd,ake),(IntKind.wrap .i64 (v19+1)),()) w4) (
   nn a0 λp62=>
   aZ w3.drew (p62.add 4) λOa UK aax=>
   nn a0 λp64=>
   aZ w3.drew (p64.add 4) λBs AL CA=>
   cr Bs AL x3 1 λp66=>
   aZ w3.drew p66 λDk L9 L_=>
   qp 115 #[.slice v18 aav aaw,.slice Dk L9 L_] w3.drew λpU xQ xR eG=>
   (
    aZ eG (p62.add 4) λxS EC ED=>
    ((.slice xS EC ED:Value)=.slice Oa UK aax))/\
   cr Oa UK x3 1 λp70=>
   st eG (p70.add 0) (.slice pU xQ xR) λgT=>
   R (.bool v17) gT)) (true,(none,0,0),0,()) w2
theorem HH (a0 a1 w R) (h:aes a0 a1 w R):qE 112 #[.pointer a0,qI a1] w R:=qv (.s .l (.s .l (.s .l (.s .l (.s .l (.s .l (.s (.s .l (.b (.o [(7,.one (.bool)),(8,.one (.x_)),(29,.one (.int .i64))] (.s .l (.s (.c .l .l) (.s (.j [(7,.one (.bool)),(8,.one (.x_))] (.b (.s .l (.s (.s .l (.c .l .l)) (.s .l (.s .l (.b (.s .l (.c .l (.s .l (.c (.s .l .l) (.s .l (.c .l .l))))))))))))) .l)))))) (.s (.d [0,1,3,7,0,0,0,64,192,448,0,1984,4032,8160,16383,32767]) (.s .l .l))))))))) Tryz.func112 (by kernel_rfl) (by kernel_rfl) h
theorem aet:br qQ 112:=by kernel_rfl
def aeu (a0:qA) (a1:qA) (w:World) (R:qR):Prop:=
 cg w [.pointer a1] 124 λb2 w1=>
 qc 113 [.pointer a0] w1 λx4 lQ sy w2=>
 qb 198 [.slice x4 lQ sy,.func (.func 199) #[] #[qP b2]] w2 λx6 w3=>
 R (.bool x6) w3
theorem HJ (a0 a1 w R) (h:aeu a0 a1 w R):qE 179 #[.pointer a0,.pointer a1] w R:=qv (.s .l (.s .l .l)) Tryz.func179 (by kernel_rfl) (by kernel_rfl) h
theorem aev:br qQ 179:=by kernel_rfl
def aew (a0:qA) (a1:qA) (w:World) (R:qR):Prop:=
 nn a1 λp4=>
 aZ w (p4.add 1) λx5 sS yU=>
 lp (σ:=Int×Int×Unit) (λs9 w1 k8=>match s9 with
  | (v6,v7,_)=>
  bC (decide (v7<(sS:Int))) (
   jn (σ:=Int×Unit) (λfF=>
    cr x5 sS v7 1 λqs=>
    aW .i64 w1 qs λfk=>
    nn a0 λDi=>
    iF w1.drew (Di.add 2) λgh=>
    qi 94 [qI fk] w1.drew λic w3=>
    (
     iF w3 (Di.add 2) λj5=>
     ((.pointer j5:Value)=.pointer gh))/\
    qi 170 [.pointer gh,qI ic] w3 λiU w4=>
    bC (iU != 0) (
     R (.bool false) w4) (
     nn a0 λWZ=>
     iF w4 (WZ.add 2) λiI=>
     cl Tryz.prog 115 [.pointer iI,qI fk] w4 λe29 w5=>∃jN:Int,e29=Ending.returned (.int .i8 jN)/\
     bC (decide (jN>0)) (
      fF ((IntKind.wrap .i64 (v6+1)),()) w5) (
      fF (v6,()) w5))) λTV w2=>match TV with
   | (v11,_)=>
   k8 (v11,(IntKind.wrap .i64 (v7+1)),()) w2) (
   R (.bool (v6==1)) w1)) (0,0,()) w
theorem HK (a0 a1 w R) (h:aew a0 a1 w R):qE 180 #[.pointer a0,.pointer a1] w R:=qv (.s .l (.s .l (.s (.s .l (.b (.o [(5,.one (.int .i64)),(13,.one (.int .i64))] (.s .l (.s (.c .l .l) (.s (.j [(5,.one (.int .i64))] (.b (.s .l (.s (.s (.d [0,1,3,7,0,16,63,127]) (.c (.s .l .l) .l)) (.s .l (.c .l .l)))))) .l)))))) (.s .l .l)))) Tryz.func180 (by kernel_rfl) (by kernel_rfl) h
theorem aex:br qQ 180:=by kernel_rfl
def aey (a0:qA) (w:World) (R:qR):Prop:=
 nn a0 λp4=>
 aZ w (p4.add 3) λx5 sS yU=>
 lp (σ:=(qA×Nat×Nat)×Int×Unit) (λs9 w1 k8=>match s9 with
  | ((v6,XB,XC),v7,_)=>
  bC (decide (v7<(sS:Int))) (
   cr x5 sS v7 1 λsU=>
   aW .i64 w1 sU λeV=>
   nn a0 λqs=>
   iF w1 (qs.add 1) λfk=>
   cl Tryz.prog 138 [.pointer a0,qI eV,.func (.func 139) #[.pointer fk] #[]] w1 λe20 w2=>∃fL:Int,∃gh:Int,∃(ic:qA) (vV yV:Nat),e20=Ending.returned (.agg #[qI fL,qI gh,.slice ic vV yV])/\
   cg w2 [qI fL,qI gh,.slice ic vV yV] 175 λGb w3=>
   qp 173 #[.slice v6 XB XC,.slice (some (⟨Gb,0,none⟩:Addr)) 1 1] w3 λiU xL Ce w4=>
   k8 ((iU,xL,Ce),(IntKind.wrap .i64 (v7+1)),()) w4) (
   R (.slice v6 XB XC) w1)) ((none,0,0),0,()) w
theorem HL (a0 w R) (h:aey a0 w R):qE 113 #[.pointer a0] w R:=qv (.s .l (.s .l (.s (.s .l (.b (.o [(3,.one (.x_)),(11,.one (.int .i64))] (.s .l (.s (.c .l .l) (.s (.b (.s .l .l)) .l)))))) (.s .l .l)))) Tryz.func113 (by kernel_rfl) (by kernel_rfl) h
theorem Bu:br qQ 113:=by kernel_rfl
def aez (a0:qA) (a1:Int) (a2:Int) (w:World) (R:qR):Prop:=
 nn a0 λp2=>
 iF w.drew (p2.add 2) λx3=>
 nn a0 λp4=>
 iF w.drew (p4.add 2) λx5=>
 qi 94 [qI a1] w.drew λx6 w1=>
 (
  iF w1 (p4.add 2) λx8=>
  ((.pointer x8:Value)=.pointer x5))/\
 (
  iF w1 (p2.add 2) λx9=>
  ((.pointer x9:Value)=.pointer x3))/\
 qi 170 [.pointer x3,qI x6] w1 λdR w2=>
 (
  iF w2 (p4.add 2) λdJ=>
  ((.pointer dJ:Value)=.pointer x5))/\
 qi 94 [qI a2] w2 λeV w3=>
 (
  iF w3 (p4.add 2) λeP=>
  ((.pointer eP:Value)=.pointer x5))/\
 qi 170 [.pointer x5,qI eV] w3 λfk w4=>
 R (qI (IntKind.wrap .i64 (dR - fk))) w4
theorem HM (a0 a1 a2 w R) (h:aez a0 a1 a2 w R):qE 144 #[.pointer a0,qI a1,qI a2] w R:=qv (.s .l (.s (.d [0,1,3,7,0,16,63,0,128,384,896,0,2175,8191,16383,32767]) .l)) Tryz.func144 (by kernel_rfl) (by kernel_rfl) h
theorem aeA:br qQ 144:=by kernel_rfl
def aeB (a0:qA) (a1:Int) (w:World) (R:qR):Prop:=
 nn a0 λp2=>
 iF w (p2.add 2) λx3=>
 cl Tryz.prog 178 [.pointer x3,qI a1] w λe6 w1=>∃(x4:qA) (lQ sy:Nat),∃x5:Int,e6=Ending.returned (.tuple #[.slice x4 lQ sy,qI x5])/\
 nn a0 λp7=>
 aZ w1.drew (p7.add 3) λx8 Ca Cb=>
 nn a0 λp9=>
 aZ w1.drew (p9.add 3) λdR iS mO=>
 (0:Int)<=(IntKind.wrap .i64 ((iS:Int) - (lQ:Int)))/\(IntKind.wrap .i64 ((iS:Int) - (lQ:Int)))<=(Cb:Int)/\
 nn a0 λrF=>
 st w1.drew ((rF.add 3).add 0) (.slice (jZ x8 Cb 0 1) ((Int.toNat (IntKind.wrap .i64 ((iS:Int) - (lQ:Int)))) - 0) (Cb - 0)) λw2=>
 nn a0 λsU=>
 aW .i64 w2.drew (sU.add 8) λeV=>
 nn a0 λCd=>
 aZ w2.drew (Cd.add 3) λeP nK uH=>
 nn a0 λCc=>
 st w2.drew ((Cc.add 8).add 0) (qI (if (nK:Int)<eV then (nK:Int) else eV)) λw3=>
 R (.tuple #[]) w3
theorem HN (a0 a1 w R) (h:aeB a0 a1 w R):qE 145 #[.pointer a0,qI a1] w R:=qv (.s .l (.s (.d [0,0,2,6,14,0,32,96,224,480,0,1024,4064,8190,16383,32767,65535]) (.d [0,0,2,6,14,0,32,96,224,480,1022,2047,4095,8191]))) Tryz.func145 (by kernel_rfl) (by kernel_rfl) h
theorem XD:br qQ 145:=by kernel_rfl
def aeC (a0:qA) (a1:Int) (a2:qA) (w:World) (R:qR):Prop:=
 nn a0 λp1=>
 iF w.drew (p1.add 2) λx2=>
 nn a2 λp3=>
 aW .i64 w.drew (p3.add 0) λx4=>
 qi 169 [.pointer x2,qI a1,qI x4] w.drew λx5 w1=>
 nn a0 λp8=>
 aZ w1 (p8.add 3) λx9 yg Bm=>
 cg w1 [qI a1] 3 λb10 w2=>
 qp 59 #[.slice x9 yg Bm,.slice (some (⟨b10,0,none⟩:Addr)) 1 1] w2 λfh vU xK w3=>
 nn a0 λsU=>
 st w3 ((sU.add 3).add 0) (.slice fh vU xK) λw4=>
 R (.tuple #[]) w4
theorem HO (a0 a1 a2 w R) (h:aeC a0 a1 a2 w R):qE 135 #[.pointer a0,qI a1,.pointer a2] w R:=qv (.s (.d [0,1,3,7,0,0,32,96,224,511]) .l) Tryz.func135 (by kernel_rfl) (by kernel_rfl) h
theorem Qi:br qQ 135:=by kernel_rfl
def aeD (a0:qA) (a1:qA) (a2:Int) (w:World) (R:qR):Prop:=
 qi 137 [.pointer a1,qI a2] w λx3 w1=>
 nn a0 λp6=>
 iF w1 (p6.add 2) λx7=>
 cl Tryz.prog 115 [.pointer x7,qI x3] w1 λe9 w2=>∃x8:Int,e9=Ending.returned (.int .i8 x8)/\
 bC (decide (x8>0)) (
  R (.bool false) w2) (
  nn a1 λsU=>
  aZ w2 (sU.add 1) λeV sB uy=>
  lp (σ:=Int×Unit) (λs16 w3 AM=>match s16 with
   | (v14,_)=>
   bC (decide (v14<(sB:Int))) (
    cr eV sB v14 1 λPr=>
    aW .i64 w3 Pr λeX=>
    gd (α:=Addr) (cond (eX != x3) (eX != a2) false) (λEy=>
     nn a0 λLN=>
     Ey LN w3) ⟨0,0,none⟩ w3 λiV w4=>
    gd (α:=(qA)) (cond (eX != x3) (eX != a2) false) (λpK=>
     iF w4 (iV.add 2) λjj=>
     pK jj w4) none w4 λiI w5=>
    gd (α:=Int) (cond (eX != x3) (eX != a2) false) (λk28=>
     cl Tryz.prog 115 [.pointer iI,qI eX] w5 λUL w6=>∃jo:Int,UL=Ending.returned (.int .i8 jo)/\
     k28 jo w6) 0 w5 λuJ w7=>
    bC (cond (cond (eX != x3) (eX != a2) false) (decide (uJ >= 0)) false) (
     nn a1 λp33=>
     st w7 ((p33.add 2).add 0) (qI x3) λw8=>
     st w8 ((p33.add 2).add 1) (qI eX) λw9=>
     nn a0 λJT=>
     aZ w9.drew (JT.add 4) λlZ jk j9=>
     nn a0 λAJ=>
     aZ w9.drew (AJ.add 4) λnh qJ uG=>
     (
      qi 99 [qI eX] w9.drew λpg cK=>
      (
       aZ cK (AJ.add 4) λDj aar aas=>
       ((.slice Dj aar aas:Value)=.slice nh qJ uG))/\
      (
       aZ cK (JT.add 4) λtY aat aau=>
       ((.slice tY aat aau:Value)=.slice lZ jk j9))/\
      (
       qi 99 [qI eX] cK λoC dB=>
       (
        aZ dB (AJ.add 4) λj_ gM iJ=>
        ((.slice j_ gM iJ:Value)=.slice nh qJ uG))/\
       (
        aZ dB (JT.add 4) λyq Ez EA=>
        ((.slice yq Ez EA:Value)=.slice lZ jk j9))/\
       cr nh qJ oC 1 λN7=>
       aZ dB N7 λnA Hg AB=>
       cg dB [.pointer a1] 124 λsE dF=>
       (
        aZ dF N7 λng uE uF=>
        ((.slice ng uE uF:Value)=.slice nA Hg AB))/\
       (
        aZ dF (AJ.add 4) λvY AH Ek=>
        ((.slice vY AH Ek:Value)=.slice nh qJ uG))/\
       (
        aZ dF (JT.add 4) λxM AD vW=>
        ((.slice xM AD vW:Value)=.slice lZ jk j9))/\
       qp 115 #[.slice nA Hg AB,.slice (some (⟨sE,0,none⟩:Addr)) 1 1] dF λxN y9 AI eA=>
       (
        aZ eA (JT.add 4) λAK qK sG=>
        ((.slice AK qK sG:Value)=.slice lZ jk j9))/\
       cr lZ jk pg 1 λp54=>
       st eA (p54.add 0) (.slice xN y9 AI) λeG=>
       R (.bool true) eG)/\
      (
       cg cK [.pointer a1] 124 λb56 gT=>
       (
        aZ gT (AJ.add 4) λxe Qd Qe=>
        ((.slice xe Qd Qe:Value)=.slice nh qJ uG))/\
       (
        aZ gT (JT.add 4) λBr y_ Cv=>
        ((.slice Br y_ Cv:Value)=.slice lZ jk j9))/\
       qi 99 [qI eX] gT λxl eM=>
       (
        aZ eM (AJ.add 4) λHD Qf Qg=>
        ((.slice HD Qf Qg:Value)=.slice nh qJ uG))/\
       (
        aZ eM (JT.add 4) λzb Qh UJ=>
        ((.slice zb Qh UJ:Value)=.slice lZ jk j9))/\
       cr nh qJ xl 1 λp63=>
       aZ eM p63 λDl Qj Qk=>
       qp 115 #[.slice Dl Qj Qk,.slice (some (⟨b56,0,none⟩:Addr)) 1 1] eM λBs AL CA fe=>
       (
        aZ fe (JT.add 4) λv_ EE HP=>
        ((.slice v_ EE HP:Value)=.slice lZ jk j9))/\
       cr lZ jk pg 1 λp67=>
       st fe (p67.add 0) (.slice Bs AL CA) λgB=>
       R (.bool true) gB))/\
     (
      cg w9.drew [.pointer a1] 124 λZL fV=>
      (
       aZ fV (AJ.add 4) λXE akf akg=>
       ((.slice XE akf akg:Value)=.slice nh qJ uG))/\
      (
       aZ fV (JT.add 4) λJO Ma Uf=>
       ((.slice JO Ma Uf:Value)=.slice lZ jk j9))/\
      qi 99 [qI eX] fV λJU nF=>
      (
       aZ nF (AJ.add 4) λQl Mz MA=>
       ((.slice Ql Mz MA:Value)=.slice nh qJ uG))/\
      (
       aZ nF (JT.add 4) λUM UN UO=>
       ((.slice UM UN UO:Value)=.slice lZ jk j9))/\
      qi 99 [qI eX] nF λUP og=>
      (
       aZ og (AJ.add 4) λTc aay aaz=>
       ((.slice Tc aay aaz:Value)=.slice nh qJ uG))/\
      (
       aZ og (JT.add 4) λEF AN AO=>
       ((.slice EF AN AO:Value)=.slice lZ jk j9))/\
      cr nh qJ UP 1 λp80=>
      aZ og p80 λUQ aaA aaB=>
      qp 115 #[.slice UQ aaA aaB,.slice (some (⟨ZL,0,none⟩:Addr)) 1 1] og λPx aaC aaD xh=>
      (
       aZ xh (JT.add 4) λGa Qm Qn=>
       ((.slice Ga Qm Qn:Value)=.slice lZ jk j9))/\
      cr lZ jk JU 1 λp84=>
      st xh (p84.add 0) (.slice Px aaC aaD) λmV=>
      R (.bool true) mV)) (
     AM ((IntKind.wrap .i64 (v14+1)),()) w7)) (
    R (.bool false) w3)) (0,()) w2)
theorem HQ (a0 a1 a2 w R) (h:aeD a0 a1 a2 w R):qE 136 #[.pointer a0,.pointer a1,qI a2] w R:=qv (.s .l (.s .l (.s (.s .l (.c (.s .l .l) .l)) (.s (.s .l (.b (.o [(25,.one (.int .i64))] (.s .l (.s (.c .l .l) (.s (.b (.s .l (.s .l (.c (.s .l (.s (.d [0,1,3,7,0,16,0,64,192,448,0,1072,4080,8176,0,16384,65520,131071,262143]) (.s .l .l))) .l)))) .l)))))) (.s .l .l))))) Tryz.func136 (by kernel_rfl) (by kernel_rfl) h
theorem aeE:br qQ 136:=by kernel_rfl
def aeF (a0:qA) (a1:Int) (w:World) (R:qR):Prop:=
 nn a0 λp3=>
 cr (some (p3.add 2)) 2 0 1 λp4=>
 aW .i64 w p4 λx5=>
 bC (x5==a1) (
  nn a0 λp7=>
  cr (some (p7.add 2)) 2 1 1 λp8=>
  aW .i64 w p8 λx9=>
  R (qI x9) w) (
  nn a0 λrF=>
  cr (some (rF.add 2)) 2 0 1 λsU=>
  aW .i64 w sU λeV=>
  R (qI eV) w)
theorem HR (a0 a1 w R) (h:aeF a0 a1 w R):qE 137 #[.pointer a0,qI a1] w R:=qv (.s .l (.s (.s .l (.c (.s .l .l) .l)) (.s .l .l))) Tryz.func137 (by kernel_rfl) (by kernel_rfl) h
theorem Qo:br qQ 137:=by kernel_rfl
def aeG (a0:qA) (dZ:Bool) (d_:qA) (iY:Nat) (iZ:Nat) (w:World) (R:qR):Prop:=
 cg w [.bool dZ,.slice d_ iY iZ] 99 λb2 w1=>
 nn a0 λp3=>
 aZ w1.drew (p3.add 0) λx4 lQ sy=>
 qB w1.drew b2 0 λx5=>
 qC w1.drew b2 1 λx6 N9 SV=>
 qc 142 [.slice x6 N9 SV] w1.drew λx7 wZ Bj w2=>
 (
  qB w2 b2 0 λx9=>
  ((.bool x9:Value)=.bool x5))/\
 (
  aZ w2 (p3.add 0) λdR iS mO=>
  ((.slice dR iS mO:Value)=.slice x4 lQ sy))/\
 cg w2 [.bool x5,.slice x7 wZ Bj] 99 λqt w3=>
 (
  aZ w3 (p3.add 0) λdJ mP qw=>
  ((.slice dJ mP qw:Value)=.slice x4 lQ sy))/\
 qp 31 #[.slice x4 lQ sy,.slice (some (⟨qt,0,none⟩:Addr)) 1 1] w3 λeV sB uy w4=>
 nn a0 λCd=>
 st w4 ((Cd.add 0).add 0) (.slice eV sB uy) λw5=>
 R (.tuple #[]) w5
theorem HS (a0 dZ d_ iY iZ w R) (h:aeG a0 dZ d_ iY iZ w R):qE 230 #[.pointer a0,.agg #[.bool dZ,.slice d_ iY iZ]] w R:=qv (.s .l (.d [0,0,2,6,14,0,32,0,128,384,992,2016,4094,8191,16383,32767])) Tryz.func230 (by kernel_rfl) (by kernel_rfl) h
theorem aeH:br qQ 230:=by kernel_rfl
end T
namespace bp
open Go Vc T
open bt (cQ aL aA bg aO aB Sl sv mE)
open dw (fl bx qG cZ cD idx bJ cH)
open mT (Ar AR)
open Trail (TI Tr St fR gj ij bW cR eY cL upto)
abbrev I (n:Int):Value:=.int .i64 n
abbrev J8 (n:Int):Value:=.int .i8 n
abbrev Pt (b:Nat):Value:=.pointer (some ⟨b,0,none⟩)
abbrev E:=Trail.E
structure Hd where
 at_:Int
 ls:List Int
 e0:Int
 e1:Int
 gone:Bool
structure ES where
 nv:Nat
 ar:Ar
 R:List E
 L:List Int
 lists:List (List Nat)
 short:List Nat
 aC:List Nat
 H:List Hd
 log:List (Bool×List Int)
 head:Nat
 rest:Bool
 aQ:Bool
 dead:Bool
 bad:Int
structure Hs where
 st:Nat
 T:TI
 oo:Sl
 ll:Sl
 hh:List Sl
 ss:Sl
 le:Sl
 bk:Nat
 lg:Sl
 gl:List Sl
 hb:Nat->Nat
 hl:Nat->Sl
def bn (l:Int):Nat:=(idx l).toNat
def ef (x:(Bool×List Int)×Sl):List Value:=[.bool x.1.1,sv x.2]
structure Rp (ex:Nat->Prop) (w:World) (b:Nat) (o:Nat->Int) (h:Hs) (S:ES):Prop where
 self:b_ w b [I S.nv,Pt h.st,Pt h.T.t,sv h.oo,sv h.ll,sv h.ss,sv h.le,.iface 112 (Pt h.bk),I S.head,.bool S.rest,.bool S.aQ,.bool S.dead,I S.bad] 120
 cC:o b=-1
 ar:AR (λi=>o i=-2/\i<w.heap.size) w h.st S.ar
 tr:Tr S.nv w h.T S.R S.L
 Ak:∀i,h.T.F i->o i=-3
 oo:bR w 3 1 h.oo.1 h.oo.2.1 h.oo.2.2 ((S.R.map λe=>e.lit).map I)
 sZ:∀i,ob h.oo.1 i->o i=-4
 out:bR w 115 1 h.ll.1 h.ll.2.1 h.ll.2.2 (h.hh.map sv)
 jQ:∀i,ob h.ll.1 i->o i=-5
 Bv:h.hh.length=2*S.nv
 CB:S.lists.length=2*S.nv
 we:∀(i:Nat) (x:Sl) (ids:List Nat),h.hh[i]?=some x->S.lists[i]?=some ids->¬ex i->bR w 124 1 x.1 x.2.1 x.2.2 (ids.map λk=>Pt (h.hb k))
 xT:∀(i:Nat) (x:Sl),h.hh[i]?=some x->∀j,ob x.1 j->o j=i/\j<w.heap.size
 sh:bR w 124 1 h.ss.1 h.ss.2.1 h.ss.2.2 (S.short.map λk=>Pt (h.hb k))
 wg:∀i,ob h.ss.1 i->o i=-6
 le:bR w 124 1 h.le.1 h.le.2.1 h.le.2.2 (S.aC.map λk=>Pt (h.hb k))
 wh:∀i,ob h.le.1 i->o i=-7
 bk:b_ w h.bk [sv h.lg] 114
 uK:o h.bk=-8
 lg:bR w 99 2 h.lg.1 h.lg.2.1 h.lg.2.2 ((S.log.zip h.gl).flatMap ef)
 xm:∀i,ob h.lg.1 i->o i=-10
 AP:h.gl.length=S.log.length
 gl:∀(i:Nat) (x:Bool×List Int) (y:Sl),S.log[i]?=some x->h.gl[i]?=some y->cQ w y.1 y.2.1 x.2/\∀j,ob y.1 j->o j=-11/\j<w.heap.size
 held:∀(i:Nat) (d:Hd),S.H[i]?=some d->b_ w (h.hb i) [I d.at_,sv (h.hl i),I d.e0,I d.e1,.bool d.gone] 127/\o (h.hb i)=-12/\cQ w (h.hl i).1 (h.hl i).2.1 d.ls/\∀j,ob (h.hl i).1 j->o j=-13/\j<w.heap.size
 inj:∀i j,i<S.H.length->j<S.H.length->h.hb i=h.hb j->i=j
 wj:∀j,w.heap.size<=j->o j=-9
def Ag (w:World) (o o':Nat->Int):Prop:=∀i,i<w.heap.size->o' i=o i
section
variable {ex:Nat->Prop} {w w' w1 w2:World} {b:Nat} {o o' o1 o2:Nat->Int} {h h':Hs} {S S':ES} {T:Int->Prop}
theorem Ag.refl (w:World) (o:Nat->Int):Ag w o o:=λ_ _=>rfl
theorem Ag.trans (h:Ag w o o1) (h':Ag w1 o1 o2) (hs:w.heap.size<=w1.heap.size):Ag w o o2:=λi hi=>by rw [h' i (by omega),h i hi]
theorem JV (h:af (λi=>T (o i)) w w1) (ha:Ag w o o1) (h':af (λi=>T (o1 i)) w1 w2):af (λi=>T (o i)) w w2:=
 h.trans h' λi hi ht=>by rw [ha i hi] at ht; exact ht
theorem jI {M M':Nat->Prop} {b:Nat} {A:Ar} (h:AR M w b A) (hm:∀i,M i->M' i) (hl:∀i,M' i->i<w.heap.size):AR M' w b A:=by
 obtain ⟨wp,wn,wc,r,op,oc,os,h1,h2,h3,h4,m1,m2,m3,d1,d2,d3⟩:=h.rep;exact ⟨⟨wp,wn,wc,r,op,oc,os,h1,h2,h3,h4,hm _ m1,λi hi=>hm i (m2 i hi),λi hi=>hm i (m3 i hi),d1,d2,d3⟩,hm _ h.own,hl,h.lv⟩
theorem Rp.Bw {U:Nat->Prop} (hR:Rp ex w b o h S) (hk:af U w w') (hU:∀i,i<w.heap.size->U i->o i=-9):Rp ex w' b o h S:=by
 have no:∀{i:Nat} {t:Int},i<w.heap.size->o i=t->t≠ -9->¬U i:=λhi ho ht hu=>by have:=hU _ hi hu; omega
 have nO:∀{e:TypeId} {sz:Nat} {p:Option Addr} {n c:Nat} {xs:List Value} {t:Int},bR w e sz p n c xs->(∀i,ob p i->o i=t)->t≠ -9->∀i,ob p i->¬U i:=λhO ht bz i hi=>no (hO.lt i hi) (ht i hi) bz;have z:=hk.size;have Eh:AR (λi=>o i=-2/\i<w'.heap.size) w' h.st S.ar:=jI ((hR.ar).ax (U:=λi=>U i/\i<w.heap.size) ⟨hk.os,hk.tape,hk.output,hk.size,λi hi hn=>hk.block i hi λhu=>hn ⟨hu,hi⟩⟩ λi hi hh=>no hi.2 hh.1 (by decide) hi.1) (λi hi=>⟨hi.1,by omega⟩) (λi hi=>hi.2);exact ⟨hR.self.ax hk (no hR.self.lt hR.cC (by decide)),hR.cC,Eh,hR.tr.ax hk (λi hi hu=>no (hR.tr.lt i hi) (hR.Ak i hi) (by decide) hu),hR.Ak,
  hR.oo.ax hk (nO hR.oo hR.sZ (by decide)),hR.sZ,hR.out.ax hk (nO hR.out hR.jQ (by decide)),hR.jQ,hR.Bv,hR.CB,
  λi x ids hx hi hn=>(hR.we i x ids hx hi hn).ax hk λj hj=>no (hR.xT i x hx j hj).2 (hR.xT i x hx j hj).1 (by omega),
  λi x hx j hj=>⟨(hR.xT i x hx j hj).1,by have:=(hR.xT i x hx j hj).2; omega⟩,
  hR.sh.ax hk (nO hR.sh hR.wg (by decide)),hR.wg,hR.le.ax hk (nO hR.le hR.wh (by decide)),hR.wh,hR.bk.ax hk (no hR.bk.lt hR.uK (by decide)),hR.uK,
  hR.lg.ax hk (nO hR.lg hR.xm (by decide)),hR.xm,hR.AP,
  λi x y hx hy=>⟨(hR.gl i x y hx hy).1.ax hk λj hj=>no ((hR.gl i x y hx hy).2 j hj).2 ((hR.gl i x y hx hy).2 j hj).1 (by decide),λj hj=>⟨((hR.gl i x y hx hy).2 j hj).1,by have:=((hR.gl i x y hx hy).2 j hj).2; omega⟩⟩,
  λi d hd=>by
   obtain ⟨h1,h2,h3,h4⟩:=hR.held i d hd;exact ⟨h1.ax hk (no h1.lt h2 (by decide)),h2,h3.ax hk (λj hj=>no (h4 j hj).2 (h4 j hj).1 (by decide)),λj hj=>⟨(h4 j hj).1,by have:=(h4 j hj).2; omega⟩⟩,hR.inj,λj hj=>hR.wj j (by omega)⟩
theorem Rp.aa (hR:Rp ex w b o h S) (hk:af aq w w'):Rp ex w' b o h S:=hR.Bw hk λi _ hi=>hi.elim
theorem Rp.tag (hR:Rp ex w b o h S) (ha:∀j,o j≠ -9->o' j=o j) (hn:∀j,w.heap.size<=j->o' j=-9):Rp ex w b o' h S:=by
 have Eh:AR (λi=>o' i=-2/\i<w.heap.size) w h.st S.ar:=jI hR.ar (λi hi=>⟨by rw [ha i (by rw [hi.1]; decide)]; exact hi.1,hi.2⟩) λi hi=>hi.2;have q:∀{P:Nat->Prop} {t:Int},t≠ -9->(∀i,P i->o i=t)->∀i,P i->o' i=t:=λbz ht i hi=>by rw [ha i (by rw [ht i hi]; exact bz)]; exact ht i hi
 have q1:∀{i:Nat} {t:Int},t≠ -9->o i=t->o' i=t:=λbz ht=>by rw [ha _ (by rw [ht]; exact bz)]; exact ht
 exact ⟨hR.self,q1 (by decide) hR.cC,Eh,hR.tr,q (by decide) hR.Ak,hR.oo,q (by decide) hR.sZ,hR.out,q (by decide) hR.jQ,hR.Bv,hR.CB,hR.we,
  λi x hx j hj=>⟨q1 (by omega) (hR.xT i x hx j hj).1,(hR.xT i x hx j hj).2⟩,hR.sh,q (by decide) hR.wg,hR.le,q (by decide) hR.wh,hR.bk,q1 (by decide) hR.uK,hR.lg,q (by decide) hR.xm,hR.AP,
  λi x y hx hy=>⟨(hR.gl i x y hx hy).1,λj hj=>⟨q1 (by decide) ((hR.gl i x y hx hy).2 j hj).1,((hR.gl i x y hx hy).2 j hj).2⟩⟩,
  λi d hd=>by
   obtain ⟨h1,h2,h3,h4⟩:=hR.held i d hd;exact ⟨h1,q1 (by decide) h2,h3,λj hj=>⟨q1 (by decide) (h4 j hj).1,(h4 j hj).2⟩⟩,hR.inj,hn⟩
def Nx (T:Int->Prop) (ex:Nat->Prop) (w:World) (b:Nat) (o:Nat->Int) (h:Hs) (S':ES) (w':World):Prop:=
 ∃o' h',Rp ex w' b o' h' S'/\Ag w o o'/\af (λi=>T (o i)) w w'/\h'.hb=h.hb
end
def cA (t:Int):Prop:=t≠ -9
def vl (S:ES) (l:Int):Int:=fR S.nv S.R l
def other (d:Hd) (l:Int):Int:=if d.e0=l then d.e1 else d.e0
def Wi (nv:Nat) (l:Int):Prop:=l≠0/\ -(nv:Int)<=l/\l<=nv
end bp
namespace bp
open Go Vc T
open bt (cQ aL aA bg aO aB Sl sv mE)
open dw (fl bx qG cZ cD idx bJ cO cH)
open mT (Ar AR)
open Trail (TI Tr St fR gj ij bW cR eY cL upto)
theorem yu {nv:Nat} (dS:nv<=1048576) {l:Int} (h:Wi nv l):idx l=((bn l:Nat):Int):=by
 unfold bn; have:=(bJ (bx.2 ⟨h.1,by have:=h.2.1; omega,by have:=h.2.2; omega⟩)).1; omega
theorem iA {nv:Nat} (dS:nv<=1048576) {l:Int} (h:Wi nv l):fl l=true:=bx.2 ⟨h.1,by have:=h.2.1; omega,by have:=h.2.2; omega⟩
theorem fu {nv:Nat} {l:Int} (h:Wi nv l):bn l<2*nv:=by
 obtain ⟨h0,h1,h2⟩:=h;unfold bn idx;split<;>omega
theorem jR {nv:Nat} (dS:nv<=1048576) {l m:Int} (hl:Wi nv l) (hm:Wi nv m) (h:bn l=bn m):l=m:=
 cO (iA dS hl) (iA dS hm) (by rw [yu dS hl,yu dS hm,h])
theorem jJ {w:World} {e:TypeId} {p:Option Addr} {n c:Nat} {f:Nat->Nat} {ys:List Nat} (h:bR w e 1 p n c (ys.map λk=>Pt (f k))):ys.length=n:=by
 have:=h.len; simpa using this
section
variable {ex:Nat->Prop} {w w':World} {b:Nat} {o:Nat->Int} {h:Hs} {S:ES} {T:Int->Prop}
theorem ct {e:TypeId} {sz:Nat} {p:Option Addr} {n c:Nat} {xs:List Value} {t:Int} (hO:bR w e sz p n c xs) (ho:∀i,ob p i->o i=t) (hk:af (λi=>T (o i)) w w') (ht:¬T t):bR w' e sz p n c xs:=
 hO.ax hk λi hi hh=>by have jP:T (o i):=hh; rw [ho i hi] at jP; exact ht jP
theorem fZ {bb:Nat} {cs:List Value} {ty:TypeId} {t:Int} (hB:b_ w bb cs ty) (ho:o bb=t) (hk:af (λi=>T (o i)) w w') (ht:¬T t):b_ w' bb cs ty:=
 hB.ax hk λhh=>by have jP:T (o bb):=hh; rw [ho] at jP; exact ht jP
theorem Rp.Te (hR:Rp ex w b o h S) (hk:af (λi=>T (o i)) w w') (ht:¬T (-2)):AR (λi=>o i=-2/\i<w'.heap.size) w' h.st S.ar:=
 jI (hR.ar.ax (U:=λi=>T (o i)/\i<w.heap.size) ⟨hk.os,hk.tape,hk.output,hk.size,λi hi hn=>hk.block i hi λhu=>hn ⟨hu,hi⟩⟩ λi hi hh=>by
  have h1:=hi.1; rw [hh.1] at h1; exact ht h1) (λi hi=>⟨hi.1,by have:=hk.size; omega⟩) (λi hi=>hi.2)
theorem Rp.UR (hR:Rp ex w b o h S) (hk:af (λi=>T (o i)) w w') (ht:¬T (-3)):Tr S.nv w' h.T S.R S.L:=
 hR.tr.ax hk λi hi hh=>by have jP:T (o i):=hh; rw [hR.Ak i hi] at jP; exact ht jP
theorem Rp.jS (hR:Rp ex w b o h S) (hk:af (λi=>T (o i)) w w'):∀(i:Nat) (x:Sl),h.hh[i]?=some x->∀j,ob x.1 j->o j=i/\j<w'.heap.size:=
 λi x hx j hj=>⟨(hR.xT i x hx j hj).1,by have:=(hR.xT i x hx j hj).2; have:=hk.size; omega⟩
theorem Rp.zg (hR:Rp ex w b o h S) (hk:af (λi=>T (o i)) w w') {ex':Nat->Prop} (ht:∀i:Nat,¬ex' i->¬ex i/\¬T i):∀(i:Nat) (x:Sl) (ids:List Nat),h.hh[i]?=some x->S.lists[i]?=some ids->¬ex' i->bR w' 124 1 x.1 x.2.1 x.2.2 (ids.map λk=>Pt (h.hb k)):=
 λi x ids hx hi hn=>ct (hR.we i x ids hx hi (ht i hn).1) (λj hj=>(hR.xT i x hx j hj).1) hk (ht i hn).2
theorem Rp.Tf (hR:Rp ex w b o h S) (hk:af (λi=>T (o i)) w w') (ht:¬T (-11)):∀(i:Nat) (x:Bool×List Int) (y:Sl),S.log[i]?=some x->h.gl[i]?=some y->cQ w' y.1 y.2.1 x.2/\∀j,ob y.1 j->o j=-11/\j<w'.heap.size:=
 λi x y hx hy=>⟨(hR.gl i x y hx hy).1.ax hk λj hj hh=>by have jP:T (o j):=hh; rw [((hR.gl i x y hx hy).2 j hj).1] at jP; exact ht jP,λj hj=>⟨((hR.gl i x y hx hy).2 j hj).1,by have:=((hR.gl i x y hx hy).2 j hj).2; have:=hk.size; omega⟩⟩
theorem Rp.s_ (hR:Rp ex w b o h S) (hk:af (λi=>T (o i)) w w') (ht:¬T (-12)) (JW:¬T (-13)):∀(i:Nat) (d:Hd),S.H[i]?=some d->b_ w' (h.hb i) [I d.at_,sv (h.hl i),I d.e0,I d.e1,.bool d.gone] 127/\o (h.hb i)=-12/\cQ w' (h.hl i).1 (h.hl i).2.1 d.ls/\∀j,ob (h.hl i).1 j->o j=-13/\j<w'.heap.size:=
 λi d hd=>by
  obtain ⟨h1,h2,h3,h4⟩:=hR.held i d hd;exact ⟨fZ h1 h2 hk ht,h2,h3.ax hk (λj hj hh=>by have jP:T (o j):=hh; rw [(h4 j hj).1] at jP; exact JW jP),λj hj=>⟨(h4 j hj).1,by have:=(h4 j hj).2; have:=hk.size; omega⟩⟩
theorem Rp.Qp {ex':Nat->Prop} (hR:Rp ex w b o h S) (he:∀i,ex i->ex' i):Rp ex' w b o h S:=
 {hR with we:=λi x ids hx hi hn=>hR.we i x ids hx hi λh=>hn (he i h)}
theorem Rp.EG (hR:Rp ex w b o h S) {i:Nat} {x:Sl} (hx:h.hh[i]?=some x) {K:Addr->Prop} (hK:∀a,w.cell? a=some (sv x)->K a):cr h.ll.1 h.ll.2.1 (i:Int) 1 K:=by
 have hl:=hR.out.len;have hi:=(List.getElem?_eq_some_iff.1 hx).1;rw [List.length_map] at hl;refine hR.out.ix (by omega) (by omega) λbb hb=>hK _ ?_;have hO:=hR.out;rw [hb] at hO;rw [hO.cell _ (by omega),Int.toNat_natCast,Nat.mul_one,List.getElem?_map,hx]; rfl
theorem akh (hR:Rp ex w b o h S) {i:Nat} {x:Sl} {ids:List Nat} (hx:h.hh[i]?=some x) (jl:S.lists[i]?=some ids) (bz:¬ex i) (hlen:ids.length<=17592186044415) {k bb:Nat} (hB:b_ w bb [Pt (h.hb k)] 124)
  {K:Option Addr->Nat->Nat->World->Prop}
  (hK:∀(g:Sl) (w':World) (o':Nat->Int),Rp (λj=>ex j\/j=i) w' b o' h S->Ag w o o'->bR w' 124 1 g.1 g.2.1 g.2.2 ((ids++[k]).map λk=>Pt (h.hb k))->(∀j,ob g.1 j->o' j=i)->af (λj=>o j=i) w w'->K g.1 g.2.1 g.2.2 w') :
  ∃(p':Option Addr) (n' c':Nat),∃w':World,(Builtin.append_ #[115,115] 115 #[.slice x.1 x.2.1 x.2.2,.slice (some (⟨bb,0,none⟩:Addr)) 1 1]).run Tryz.prog w=.ok (.slice p' n' c') w'/\K p' n' c' w':=by
 have hO:=hR.we i x ids hx jl bz;have hn:=jJ hO;have yw:=hR.xT i x hx;refine fI (e:=124) (sz:=1) (z:=.pointer none) (B:=8) Tryz.underlying115 (by kernel_rfl) rfl (by omega) hO hB.kU (λu hu=>?_) (by simp only [maxLen]; omega) (by omega) λp' c' w' pT hd=>?_
 ·simp only [List.mem_singleton] at hu; subst hu; rfl
 have kk:af (λj=>(λt:Int=>t=i) (o j)) w w':=by
  rcases hd with ⟨_,_,_,kk⟩ | ⟨_,kk⟩
  ·exact kk.mono λj _ hj=>(yw j hj).1
  ·exact kk.none
 have z:=kk.size;have ni:∀{t:Int},t<0->¬t=(i:Int):=λh hh=>by omega
 have iM:Rp (λj=>ex j\/j=i) w' b o h S:=⟨fZ (T:=λt=>t=i) hR.self hR.cC kk (ni (by decide)),hR.cC,hR.Te (T:=λt=>t=i) kk (ni (by decide)),hR.UR (T:=λt=>t=i) kk (ni (by decide)),hR.Ak,ct (T:=λt=>t=i) hR.oo hR.sZ kk (ni (by decide)),hR.sZ,ct (T:=λt=>t=i) hR.out hR.jQ kk (ni (by decide)),hR.jQ,hR.Bv,hR.CB,
  hR.zg (T:=λt=>t=i) kk (λj hj=>⟨λhh=>hj (Or.inl hh),λhh=>hj (Or.inr (by omega))⟩),hR.jS (T:=λt=>t=i) kk,ct (T:=λt=>t=i) hR.sh hR.wg kk (ni (by decide)),hR.wg,ct (T:=λt=>t=i) hR.le hR.wh kk (ni (by decide)),hR.wh,fZ (T:=λt=>t=i) hR.bk hR.uK kk (ni (by decide)),hR.uK,ct (T:=λt=>t=i) hR.lg hR.xm kk (ni (by decide)),hR.xm,hR.AP,hR.Tf (T:=λt=>t=i) kk (ni (by decide)),hR.s_ (T:=λt=>t=i) kk (ni (by decide)) (ni (by decide)),hR.inj,λj hj=>hR.wj j (by omega)⟩
 refine hK (p',x.2.1+1,c') w' (λj=>if j<w.heap.size then o j else if j<w'.heap.size then i else -9) (iM.tag (λj hj=>?_) λj hj=>?_) (λj hj=>if_pos hj) (by rw [List.map_append]; exact pT) (λj hj=>?_) kk
 ·have aM:j<w.heap.size:=by
   apply Classical.byContradiction;intro hn;exact hj (hR.wj j (by omega))
  exact if_pos aM
 ·show (if j<w.heap.size then o j else if j<w'.heap.size then (i:Int) else -9)=-9;rw [if_neg (by omega),if_neg (by omega)]
 ·show (if j<w.heap.size then o j else if j<w'.heap.size then (i:Int) else -9)=i;have:=pT.lt j hj;rcases hd with ⟨e,_,_,_⟩ | ⟨e,_⟩
  ·rw [e] at hj;rw [if_pos (yw j hj).2]; exact (yw j hj).1
  ·have:=e j hj;rw [if_neg (by omega),if_pos (by omega)]
theorem HT {i:Nat} {MB:List Nat} {g:Sl} (hR:Rp (λj=>ex j\/j=i) w b o h S) (hi:i<2*S.nv) (hO:bR w 124 1 g.1 g.2.1 g.2.2 (MB.map λk=>Pt (h.hb k))) (hg:∀j,ob g.1 j->o j=i) {K:World->Prop}
  (hK:∀w',Rp ex w' b o {h with hh:=h.hh.set i g} {S with lists:=S.lists.set i MB}->af (λj=>o j=-5) w w'->K w') :
  cr h.ll.1 h.ll.2.1 (i:Int) 1 λp=>st w (p.add 0) (.slice g.1 g.2.1 g.2.2) K:=by
 have hl:=hR.out.len;rw [List.length_map] at hl;have Bv:=hR.Bv;have pM:=hR.CB;refine hR.out.ix (by omega) (by omega) λbb hb=>?_;rw [Int.toNat_natCast,Nat.mul_one,ag,Nat.add_zero];have hOut:=hR.out;rw [hb] at hOut;refine hOut.st (by omega) rfl λw' tP k1 z1=>?_;have kk:af (λj=>(λt:Int=>t=-5) (o j)) w w':=k1.mono λj _ hj=>hR.jQ j ⟨_,hb,(show j=bb from hj).symm⟩;refine hK w' ⟨fZ (T:=λt=>t=-5) hR.self hR.cC kk (by decide),hR.cC,Rp.Te (h:=h) (S:=S) (T:=λt=>t=-5) hR kk (by decide),Rp.UR (h:=h) (S:=S) (T:=λt=>t=-5) hR kk (by decide),hR.Ak,ct (T:=λt=>t=-5) hR.oo hR.sZ kk (by decide),hR.sZ,by rw [List.map_set,hb]; exact tP,hR.jQ,by rw [List.length_set]; exact Bv,by rw [List.length_set]; exact pM,
  λj y ids hy hj hnj=>?_,λj y hy t ht=>?_,ct (T:=λt=>t=-5) hR.sh hR.wg kk (by decide),hR.wg,ct (T:=λt=>t=-5) hR.le hR.wh kk (by decide),hR.wh,fZ (T:=λt=>t=-5) hR.bk hR.uK kk (by decide),hR.uK,ct (T:=λt=>t=-5) hR.lg hR.xm kk (by decide),hR.xm,hR.AP,Rp.Tf (h:=h) (S:=S) (T:=λt=>t=-5) hR kk (by decide),Rp.s_ (h:=h) (S:=S) (T:=λt=>t=-5) hR kk (by decide) (by decide),hR.inj,λj hj=>hR.wj j (by rw [<-z1]; exact hj)⟩ kk
 ·by_cases DY:j=i
  ·subst DY;rw [List.getElem?_set_self (by omega)] at hy hj;injection hy with hy; injection hj with hj; subst hy hj;exact hO.ax kk λt ht hh=>by have:=hg t ht; have jP:o t=-5:=hh; omega
  ·rw [List.getElem?_set_ne (λe=>DY e.symm)] at hy hj;exact Rp.zg (h:=h) (S:=S) (T:=λt=>t=-5) hR (ex':=λj=>ex j\/j=i) kk (λt ht=>⟨ht,λhh=>by omega⟩) j y ids hy hj λhe=>by rcases he with he | he; exact hnj he; exact DY he
 ·by_cases DY:j=i
  ·subst DY;rw [List.getElem?_set_self (by omega)] at hy;injection hy with hy; subst hy;exact ⟨hg t ht,Nat.lt_of_lt_of_le (hO.lt t ht) kk.size⟩
  ·rw [List.getElem?_set_ne (λe=>DY e.symm)] at hy;exact Rp.jS (h:=h) (S:=S) (T:=λt=>t=-5) hR kk j y hy t ht
end
def XF (b hb:Nat) (oC:Option Addr) (uL zh:Nat) (j_:Option Addr) (gM iJ:Nat) (l:Int) (W:World) (K:World->Prop):Prop:=
     (
      cl Tryz.prog 99 [.int .i64 l] W λe46 w8=>∃yq:Int,e46=Ending.returned (.int .i64 yq)/\
      (
       aZ w8 ((⟨b,0,none⟩:Addr).add 4) λnA Hg AB=>
       ((.slice nA Hg AB:Value)=.slice j_ gM iJ))/\
      (
       aZ w8 ((⟨b,0,none⟩:Addr).add 4) λCC Qr Qs=>
       ((.slice CC Qr Qs:Value)=.slice oC uL zh))/\
      (
       cl Tryz.prog 99 [.int .i64 l] w8 λe50 w9=>∃ng:Int,e50=Ending.returned (.int .i64 ng)/\
       (
        aZ w9 ((⟨b,0,none⟩:Addr).add 4) λxM AD vW=>
        ((.slice xM AD vW:Value)=.slice j_ gM iJ))/\
       (
        aZ w9 ((⟨b,0,none⟩:Addr).add 4) λxN y9 AI=>
        ((.slice xN y9 AI:Value)=.slice oC uL zh))/\
       cr j_ gM ng 1 λp53=>
       aZ w9 p53 λvG vZ v8=>
       cg w9 [Pt hb] 124 λb55 cK=>
       (
        aZ cK p53 λBt EH EI=>
        ((.slice Bt EH EI:Value)=.slice vG vZ v8))/\
       (
        aZ cK ((⟨b,0,none⟩:Addr).add 4) λxe Qd Qe=>
        ((.slice xe Qd Qe:Value)=.slice j_ gM iJ))/\
       (
        aZ cK ((⟨b,0,none⟩:Addr).add 4) λBr y_ Cv=>
        ((.slice Br y_ Cv:Value)=.slice oC uL zh))/\
       ∃(xl:Option Addr) (AQ CD:Nat),∃dB:World,(Builtin.append_ #[115,115] 115 #[.slice vG vZ v8,.slice (some (⟨b55,0,none⟩:Addr)) 1 1]).run Tryz.prog cK=.ok (.slice xl AQ CD) dB/\
       (
        aZ dB ((⟨b,0,none⟩:Addr).add 4) λvH Cx Cy=>
        ((.slice vH Cx Cy:Value)=.slice oC uL zh))/\
       cr oC uL yq 1 λp61=>
       st dB (p61.add 0) (.slice xl AQ CD) λdF=>
       K dF)/\
      (
       cg w8 [Pt hb] 124 λb63 eA=>
       (
        aZ eA ((⟨b,0,none⟩:Addr).add 4) λDl Qj Qk=>
        ((.slice Dl Qj Qk:Value)=.slice j_ gM iJ))/\
       (
        aZ eA ((⟨b,0,none⟩:Addr).add 4) λBs AL CA=>
        ((.slice Bs AL CA:Value)=.slice oC uL zh))/\
       cl Tryz.prog 99 [.int .i64 l] eA λe67 eG=>∃v_:Int,e67=Ending.returned (.int .i64 v_)/\
       (
        aZ eG ((⟨b,0,none⟩:Addr).add 4) λpU xQ xR=>
        ((.slice pU xQ xR:Value)=.slice j_ gM iJ))/\
       (
        aZ eG ((⟨b,0,none⟩:Addr).add 4) λxS EC ED=>
        ((.slice xS EC ED:Value)=.slice oC uL zh))/\
       cr j_ gM v_ 1 λp70=>
       aZ eG p70 λJO Ma Uf=>
       ∃(JU:Option Addr) (US UT:Nat),∃gT:World,(Builtin.append_ #[115,115] 115 #[.slice JO Ma Uf,.slice (some (⟨b63,0,none⟩:Addr)) 1 1]).run Tryz.prog eG=.ok (.slice JU US UT) gT/\
       (
        aZ gT ((⟨b,0,none⟩:Addr).add 4) λUU aki akj=>
        ((.slice UU aki akj:Value)=.slice oC uL zh))/\
       cr oC uL yq 1 λp74=>
       st gT (p74.add 0) (.slice JU US UT) λeM=>
       K eM))/\
     (
      cg W [Pt hb] 124 λb76 fe=>
      (
       aZ fe ((⟨b,0,none⟩:Addr).add 4) λQt akk akl=>
       ((.slice Qt akk akl:Value)=.slice j_ gM iJ))/\
      (
       aZ fe ((⟨b,0,none⟩:Addr).add 4) λTc aay aaz=>
       ((.slice Tc aay aaz:Value)=.slice oC uL zh))/\
      cl Tryz.prog 99 [.int .i64 l] fe λe80 gB=>∃EF:Int,e80=Ending.returned (.int .i64 EF)/\
      (
       aZ gB ((⟨b,0,none⟩:Addr).add 4) λUQ aaA aaB=>
       ((.slice UQ aaA aaB:Value)=.slice j_ gM iJ))/\
      (
       aZ gB ((⟨b,0,none⟩:Addr).add 4) λPx aaC aaD=>
       ((.slice Px aaC aaD:Value)=.slice oC uL zh))/\
      cl Tryz.prog 99 [.int .i64 l] gB λe84 fV=>∃Ga:Int,e84=Ending.returned (.int .i64 Ga)/\
      (
       aZ fV ((⟨b,0,none⟩:Addr).add 4) λTg UW UX=>
       ((.slice Tg UW UX:Value)=.slice j_ gM iJ))/\
      (
       aZ fV ((⟨b,0,none⟩:Addr).add 4) λTh EJ EK=>
       ((.slice Th EJ EK:Value)=.slice oC uL zh))/\
      cr j_ gM Ga 1 λp87=>
      aZ fV p87 λDm akm akn=>
      ∃(Gc:Option Addr) (Qu Qv:Nat),∃nF:World,(Builtin.append_ #[115,115] 115 #[.slice Dm akm akn,.slice (some (⟨b76,0,none⟩:Addr)) 1 1]).run Tryz.prog fV=.ok (.slice Gc Qu Qv) nF/\
      (
       aZ nF ((⟨b,0,none⟩:Addr).add 4) λx90 Mb Mc=>
       ((.slice x90 Mb Mc:Value)=.slice oC uL zh))/\
      cr oC uL EF 1 λp91=>
      st nF (p91.add 0) (.slice Gc Qu Qv) λog=>
      K og)
def JX (i:Nat) (t:Int):Prop:=t=-5\/t=i
theorem Qw {ex:Nat->Prop} {w:World} {b:Nat} {o:Nat->Int} {h:Hs} {S:ES} (hR:Rp ex w b o h S) (dS:S.nv<=1048576) {l:Int} (hl:Wi S.nv l) {ids:List Nat} (jl:S.lists[bn l]?=some ids) (bz:¬ex (bn l)) (hlen:ids.length<=17592186044415) {k:Nat}
  {K:World->Prop} (hK:∀w',Nx (JX (bn l)) ex w b o h {S with lists:=S.lists.set (bn l) (ids++[k])} w'->K w') :
  XF b (h.hb k) h.ll.1 h.ll.2.1 h.ll.2.2 h.ll.1 h.ll.2.1 h.ll.2.2 l w K:=by
 have hi:=fu hl;obtain ⟨x,hx⟩:=bg (show bn l<h.hh.length by rw [hR.Bv]; exact hi);have kI:=iA dS hl;have UY:=yu dS hl
 -- yf end,behind yf new cell
 have fin:∀(W:World) (bb:Nat),af aq w W->b_ W bb [Pt (h.hb k)] 124->
   ∃(xl:Option Addr) (AQ CD:Nat),∃dB:World,(Builtin.append_ #[115,115] 115 #[.slice x.1 x.2.1 x.2.2,.slice (some (⟨bb,0,none⟩:Addr)) 1 1]).run Tryz.prog W=.ok (.slice xl AQ CD) dB/\
    (aZ dB ((⟨b,0,none⟩:Addr).add 4) λvH Cx Cy=>((.slice vH Cx Cy:Value)=.slice h.ll.1 h.ll.2.1 h.ll.2.2))/\
    cr h.ll.1 h.ll.2.1 (idx l) 1 λp61=>st dB (p61.add 0) (.slice xl AQ CD) λdF=>K dF:=by
  intro W bb kW hB;have pV:=hR.aa kW;refine akh pV hx jl bz hlen hB λg w' o' XG ha hO hg kk=>⟨?_,?_⟩
  ·rw [ag];exact au (x:=h.ll.1) (n:=h.ll.2.1) (c:=h.ll.2.2) (XG.self.cell 4) rfl
  ·rw [UY];refine HT XG hi hO hg λw3 oD k3=>hK w3 ⟨o',_,oD,?_,?_,rfl⟩
   ·exact λj hj=>ha j (Nat.lt_of_lt_of_le hj kW.size)
   ·have k1:af (λj=>JX (bn l) (o j)) w w':=(af.none (S:=λj=>JX (bn l) (o j)) kW).trans kk λj _ hh=>Or.inr hh;exact k1.trans k3 λj hj hh=>by
     have:=ha j (Nat.lt_of_lt_of_le hj kW.size);rw [this] at hh;exact Or.inl hh
 have Gf:∀{V:World},af aq w V->∀{K:Option Addr->Nat->Nat->Prop},K h.ll.1 h.ll.2.1 h.ll.2.2->aZ V ((⟨b,0,none⟩:Addr).add 4) K:=λhk K hK=>by
  rw [ag];exact au (x:=h.ll.1) (n:=h.ll.2.1) (c:=h.ll.2.2) ((hR.self.aa hk).cell 4) hK
 unfold XF;refine ⟨?_,?_⟩
 ·refine az Eb (cH kI) λe w8 ⟨he,k8⟩=>⟨_,he,Gf k8 rfl,Gf k8 rfl,?_,?_⟩
  ·refine az Eb (cH kI) λe w9 ⟨he,k9⟩=>⟨_,he,?_⟩
   have XH:=k8.ak k9;refine ⟨Gf XH rfl,Gf XH rfl,?_⟩;rw [UY];refine (hR.aa XH).EG hx λa ha=>au (x:=x.1) (n:=x.2.1) (c:=x.2.2) ha ?_;refine aD λbb cK Ld hB fD=>?_;have aaE:=XH.ak fD;refine ⟨au (x:=x.1) (n:=x.2.1) (c:=x.2.2) (fD.cell ha λh=>h) rfl,Gf aaE rfl,Gf aaE rfl,?_⟩;have:=fin cK bb aaE hB;rw [UY] at this;exact this
  ·refine aD λbb eA Ld hB gQ=>?_;have aaF:=k8.ak gQ;refine ⟨Gf aaF rfl,Gf aaF rfl,?_⟩;refine az Eb (cH kI) λe eG ⟨he,lq⟩=>⟨_,he,?_⟩
   have UZ:=aaF.ak lq;refine ⟨Gf UZ rfl,Gf UZ rfl,?_⟩;rw [UY];refine (hR.aa UZ).EG hx λa ha=>au (x:=x.1) (n:=x.2.1) (c:=x.2.2) ha ?_;have:=fin eG bb UZ (hB.aa lq);rw [UY] at this;exact this
 ·refine aD λbb fe Ld hB kz=>?_;refine ⟨Gf kz rfl,Gf kz rfl,?_⟩;refine az Eb (cH kI) λe gB ⟨he,t_⟩=>⟨_,he,?_⟩
  have aaG:=kz.ak t_;refine ⟨Gf aaG rfl,Gf aaG rfl,?_⟩;refine az Eb (cH kI) λe fV ⟨he,ta⟩=>⟨_,he,?_⟩
  have U0:=aaG.ak ta;refine ⟨Gf U0 rfl,Gf U0 rfl,?_⟩;rw [UY];refine (hR.aa U0).EG hx λa ha=>au (x:=x.1) (n:=x.2.1) (c:=x.2.2) ha ?_;have:=fin fV bb U0 ((hB.aa t_).aa ta);rw [UY] at this;exact this
end bp
namespace bp
open Go Vc T
open bt (cQ aL aA bg aO aB Sl sv mE)
open dw (fl bx qG cZ cD idx bJ cO cH)
open mT (Ar AR)
open Trail (TI Tr St fR gj ij bW cR eY cL upto bZ dK Open)
section
variable {ex:Nat->Prop} {w w':World} {b:Nat} {o:Nat->Int} {h:Hs} {S:ES}
theorem Rp.nv (hR:Rp ex w b o h S):S.nv<=1048576:=hR.tr.small.1
theorem Rp.uM (hR:Rp ex w b o h S) {K:Option Addr->Prop} (hK:K (some ⟨h.T.t,0,none⟩)):nn (some ⟨b,0,none⟩) λp=>iF w (p.add 2) K:=
 ay (cN (x:=some ⟨h.T.t,0,none⟩) (by rw [ag]; exact hR.self.cell 2) hK)
theorem Rp.val (hR:Rp ex w b o h S) {l:Int} (hl : -9223372036854775808<=l) {R:Ending->World->Prop} (hK:∀w',af aq w w'->R (.returned (J8 (vl S l))) w'):cl Tryz.prog 115 [Pt h.T.t,I l] w R:=
 az acZ (hR.tr.value l hl) λe w' ⟨he,k⟩=>by subst he; exact hK w' k
theorem CE (hR:Rp ex w b o h S) {k:Nat} {d:Hd} (hd:S.H[k]?=some d) (l:Int) :
  Calls Tryz.prog 137 #[Pt (h.hb k),I l] w λe w'=>e=.returned (I (other d l))/\w'=w:=by
 refine (HR (some ⟨h.hb k,0,none⟩) l w (λv w'=>v=I (other d l)/\w'=w) ?_).mono λe w' ⟨v,he,hv,hk⟩=>⟨by rw [he,hv],hk⟩
 unfold aeF;obtain ⟨hB,_⟩:=hR.held k d hd;have a0:∀{K:Addr->Prop},K ⟨h.hb k,2,none⟩->cr (some ((⟨h.hb k,0,none⟩:Addr).add 2)) 2 0 1 K:=λhK=>by
  rw [ag]; exact vT (by decide) (by decide) hK
 have a1:∀{K:Addr->Prop},K ⟨h.hb k,3,none⟩->cr (some ((⟨h.hb k,0,none⟩:Addr).add 2)) 2 1 1 K:=λhK=>by
  rw [ag]; exact vT (by decide) (by decide) hK
 refine ay (a0 (ah (x:=d.e0) (hB.cell 2) ?_));refine aF (λhq=>ay (a1 (ah (x:=d.e1) (hB.cell 3) ⟨?_,rfl⟩))) λhq=>ay (a0 (ah (x:=d.e0) (hB.cell 2) ⟨?_,rfl⟩))
 ·have:d.e0=l:=by simpa using hq
  unfold other; rw [if_pos this]
 ·have:¬d.e0=l:=by simpa using hq
  unfold other; rw [if_neg this]
end
def kA (S:ES) (l r:Int):ES:={S with R:=S.R++[⟨l,S.L.length,r⟩]}
def cI (t:Int):Prop:=t=-1\/t=-3\/t=-4
theorem Qx {ex:Nat->Prop} {w:World} {b:Nat} {o:Nat->Int} {h:Hs} {S:ES} (hR:Rp ex w b o h S) {k:Nat} {d:Hd} (hd:S.H[k]?=some d) (yx:0<=d.at_) {l:Int} (hl : -9223372036854775808<=l) (hf:bZ S.nv S.R l=0) :
  Calls Tryz.prog 135 #[Pt b,I l,Pt (h.hb k)] w λe w'=>e=.returned (.tuple #[])/\Nx cI ex w b o h (kA S l d.at_) w':=by
 refine (HO (some ⟨b,0,none⟩) l (some ⟨h.hb k,0,none⟩) w (λv w'=>v=.tuple #[]/\Nx cI ex w b o h (kA S l d.at_) w') ?_).mono λe w' ⟨v,he,hv,hk⟩=>⟨by rw [he,hv],hk⟩
 unfold aeC;have kd:af aq w w.drew:=(af.refl _ _).drew;have dm:=hR.aa kd;have zd:w.drew.heap.size=w.heap.size:=rfl;obtain ⟨hB,_⟩:=dm.held k d hd;have XI:=hR.tr.small;have Ax:dK S.nv S.R l d.at_=0:=by unfold dK; rw [if_pos hf,if_neg (by omega)]
 refine dm.uM (ay (ah (x:=d.at_) (by rw [ag]; exact hB.cell 0) ?_));refine az ac6 (dm.tr.mA l d.at_ hl) λe w1 ⟨he,k1,T',hmv,fQ⟩=>⟨_,he,?_⟩
 rw [Ax,if_pos rfl] at fQ;have z1:=k1.size;have kt1:af (λj=>(λt:Int=>t=-3) (o j)) w.drew w1:=k1.mono λj _ hj=>hR.Ak j hj;have zi:=fZ (T:=λt=>t=-3) dm.self hR.cC kt1 (by decide);have aaH:=ct (T:=λt=>t=-3) dm.oo hR.sZ kt1 (by decide);have AS:=aO hR.oo;rw [List.length_map] at AS;refine ay (au (x:=h.oo.1) (n:=h.oo.2.1) (c:=h.oo.2.2) (by rw [ag]; exact zi.cell 3) ?_);refine aD λb10 w2 ako Pw k2=>?_;have z2:=k2.size;refine fI (e:=3) (sz:=1) (z:=I 0) (B:=8) Tryz.underlying59 (by kernel_rfl) rfl (by omega) (aaH.aa k2) Pw.kU (λu hu=>?_) (by simp only [maxLen]; omega) (by omega) λp' c' w3 F9 JJ=>?_
 ·simp only [List.mem_singleton] at hu; subst hu; rfl
 have kt3:af (λj=>(λt:Int=>t=-4) (o j)) w2 w3:=by
  rcases JJ with ⟨_,_,_,kk⟩ | ⟨_,kk⟩
  ·exact kk.mono λj _ hj=>hR.sZ j hj
  ·exact kk.none
 have z3:=kt3.size;have aaI:=fZ (T:=λt=>t=-4) (zi.aa k2) hR.cC kt3 (by decide);have uk:b<w.heap.size:=hR.self.lt;refine ay ?_;rw [ag,ag];refine aG aaI (by simp) rfl λw4 HU k4 z4=>⟨rfl,?_⟩
 have bI:af (λj=>cI (o j)) w w4:=((((kd.none (S:=λj=>cI (o j))).trans kt1 λj _ hh=>Or.inr (Or.inl hh)).ak k2).trans kt3 λj _ hh=>Or.inr (Or.inr hh)).trans k4 λj _ hh=>by
  have hj:j=b:=hh;show cI (o j);rw [hj,hR.cC]; exact Or.inl rfl
 have xo:∀j,ob p' j->(j<w.heap.size/\o j=-4)\/w2.heap.size<=j:=λj hj=>by
  rcases JJ with ⟨e,_,_,_⟩ | ⟨e,_⟩
  ·rw [e] at hj; exact Or.inl ⟨hR.oo.lt j hj,hR.sZ j hj⟩
  ·exact Or.inr (e j hj)
 have hF:∀j,T'.F j->(j<w.heap.size/\o j=-3)\/(w.heap.size<=j/\j<w1.heap.size):=λj hj=>by
  rcases hmv.2 j hj with h1 | h1
  ·exact Or.inl ⟨hR.tr.lt j h1,hR.Ak j h1⟩
  ·exact Or.inr ⟨by omega,fQ.lt j hj⟩
 have uA:bR w4 3 1 p' (h.oo.2.1+1) c' (((kA S l d.at_).R.map λe:E=>e.lit).map I):=by
  have e1:((kA S l d.at_).R.map λe:E=>e.lit).map I=(S.R.map λe=>e.lit).map I++[I l]:=by simp [kA]
  rw [e1];refine F9.ax k4 λj hj hh=>?_;have zj:j=b:=hh;rcases xo j hj with h1 | h1
  ·rw [zj,hR.cC] at h1; exact absurd h1.2 (by decide)
  ·omega
 have S0:Tr S.nv w4 T' (S.R++[⟨l,S.L.length,d.at_⟩]) S.L:=by
  refine ((fQ.aa k2).ax kt3 λj hj hh=>?_).ax k4 λj hj hh=>?_
  ·have jP:o j=-4:=hh;rcases hF j hj with h1 | h1
   ·rw [h1.2] at jP; exact absurd jP (by decide)
   ·rw [hR.wj j h1.1] at jP; exact absurd jP (by decide)
  ·have zj:j=b:=hh;rcases hF j hj with h1 | h1
   ·rw [zj,hR.cC] at h1; exact absurd h1.2 (by decide)
   ·omega
 have eT:T'.t=h.T.t:=hmv.1
 -- yf new tags
 have lo:∀{j:Nat},o j≠ -9->j<w.heap.size:=λ{j} hj=>by
  apply Classical.byContradiction;intro hn;exact hj (hR.wj j (by omega))
 have nT:∀{t:Int},t≠ -1->t≠ -3->t≠ -4->¬cI t:=λa b c hh=>by rcases hh with h | h | h; exact a h; exact b h; exact c h
 let o':Nat->Int:=λj=>if j<w.heap.size then o j else if j<w1.heap.size then -3 else if j<w4.heap.size then -4 else -9;have e0:∀{j:Nat} {t:Int},t≠ -9->o j=t->o' j=t:=λ{j} {t} bz hj=>by
  show (if j<w.heap.size then o j else _)=t;rw [if_pos (lo (by rw [hj]; exact bz))]; exact hj
 have U1:b_ w4 b [I (kA S l d.at_).nv,Pt h.st,Pt T'.t,sv (p',h.oo.2.1+1,c'),sv h.ll,sv h.ss,sv h.le,.iface 112 (Pt h.bk),I S.head,.bool S.rest,.bool S.aQ,.bool S.dead,I S.bad] 120:=by
  rw [eT]; exact HU
 have Eh:=hR.Te (T:=cI) bI (nT (by decide) (by decide) (by decide));have lX:=hR.Tf (T:=cI) bI (nT (by decide) (by decide) (by decide));have xq:=hR.s_ (T:=cI) bI (nT (by decide) (by decide) (by decide)) (nT (by decide) (by decide) (by decide));refine ⟨o',{h with T:=T',oo:=(p',h.oo.2.1+1,c')},⟨U1,e0 (by decide) hR.cC,jI Eh (λi hi=>⟨e0 (by decide) hi.1,hi.2⟩) (λi hi=>hi.2),S0,λj hj=>?_,uA,λj hj=>?_,
  ct (T:=cI) hR.out hR.jQ bI (nT (by decide) (by decide) (by decide)),λj hj=>e0 (by decide) (hR.jQ j hj),hR.Bv,hR.CB,
  hR.zg (T:=cI) bI (λi hi=>⟨hi,nT (by omega) (by omega) (by omega)⟩),λi x hx j hj=>⟨e0 (by omega) (hR.jS (T:=cI) bI i x hx j hj).1,(hR.jS (T:=cI) bI i x hx j hj).2⟩,
  ct (T:=cI) hR.sh hR.wg bI (nT (by decide) (by decide) (by decide)),λj hj=>e0 (by decide) (hR.wg j hj),ct (T:=cI) hR.le hR.wh bI (nT (by decide) (by decide) (by decide)),λj hj=>e0 (by decide) (hR.wh j hj),
  fZ (T:=cI) hR.bk hR.uK bI (nT (by decide) (by decide) (by decide)),e0 (by decide) hR.uK,ct (T:=cI) hR.lg hR.xm bI (nT (by decide) (by decide) (by decide)),λj hj=>e0 (by decide) (hR.xm j hj),hR.AP,
  λi x y hx hy=>⟨(lX i x y hx hy).1,λj hj=>⟨e0 (by decide) ((lX i x y hx hy).2 j hj).1,((lX i x y hx hy).2 j hj).2⟩⟩,
  λi d' e_=>by
   obtain ⟨h1,h2,h3,h4⟩:=xq i d' e_;exact ⟨h1,e0 (by decide) h2,h3,λj hj=>⟨e0 (by decide) (h4 j hj).1,(h4 j hj).2⟩⟩,hR.inj,λj hj=>?_⟩,λj hj=>if_pos hj,bI,rfl⟩
 ·show (if j<w.heap.size then o j else if j<w1.heap.size then -3 else if j<w4.heap.size then -4 else -9)=-3;rcases hF j hj with h1 | h1
  ·rw [if_pos h1.1]; exact h1.2
  ·rw [if_neg (by omega),if_pos h1.2]
 ·show (if j<w.heap.size then o j else if j<w1.heap.size then -3 else if j<w4.heap.size then -4 else -9)=-4;have:=uA.lt j hj;rcases xo j hj with h1 | h1
  ·rw [if_pos h1.1]; exact h1.2
  ·rw [if_neg (by omega),if_neg (by omega),if_pos (by omega)]
 ·show (if j<w.heap.size then o j else if j<w1.heap.size then -3 else if j<w4.heap.size then -4 else -9)=-9;rw [if_neg (by omega),if_neg (by omega),if_neg (by omega)]
end bp
namespace bp
open Go Vc T
open bt (cQ aL aA bg aO aB Sl sv mE)
open dw (fl bx qG cZ cD idx bJ cO cH)
open mT (Ar AR)
open Trail (TI Tr St fR gj ij bW cR eY cL upto bZ dK Open)
section
variable {ex:Nat->Prop} {w w':World} {b:Nat} {o:Nat->Int} {h:Hs} {S:ES}
theorem Rp.JY (hR:Rp ex w b o h S) {k:Nat} {d d':Hd} (hd:S.H[k]?=some d) (pW:d'.ls=d.ls) (hk:af (One (h.hb k)) w w') (hB:b_ w' (h.hb k) [I d'.at_,sv (h.hl k),I d'.e0,I d'.e1,.bool d'.gone] 127) (hs:w'.heap.size=w.heap.size):Rp ex w' b o h {S with H:=S.H.set k d'}:=by
 obtain ⟨_,h2,_,_⟩:=hR.held k d hd;have pX:=(List.getElem?_eq_some_iff.1 hd).1;have kk:af (λj=>(λt:Int=>t=-12) (o j)) w w':=hk.mono λj _ hj=>by rw [show j=h.hb k from hj]; exact h2
 refine ⟨fZ (T:=λt=>t=-12) hR.self hR.cC kk (by decide),hR.cC,Rp.Te (h:=h) (S:=S) (T:=λt=>t=-12) hR kk (by decide),Rp.UR (h:=h) (S:=S) (T:=λt=>t=-12) hR kk (by decide),hR.Ak,ct (T:=λt=>t=-12) hR.oo hR.sZ kk (by decide),hR.sZ,ct (T:=λt=>t=-12) hR.out hR.jQ kk (by decide),hR.jQ,hR.Bv,hR.CB,
  Rp.zg (h:=h) (S:=S) (T:=λt=>t=-12) hR kk (λi hi=>⟨hi,by omega⟩),Rp.jS (h:=h) (S:=S) (T:=λt=>t=-12) hR kk,ct (T:=λt=>t=-12) hR.sh hR.wg kk (by decide),hR.wg,ct (T:=λt=>t=-12) hR.le hR.wh kk (by decide),hR.wh,fZ (T:=λt=>t=-12) hR.bk hR.uK kk (by decide),hR.uK,ct (T:=λt=>t=-12) hR.lg hR.xm kk (by decide),hR.xm,hR.AP,
  Rp.Tf (h:=h) (S:=S) (T:=λt=>t=-12) hR kk (by decide),λi d2 Ti=>?_,λi j hi hj=>hR.inj i j (by simpa using hi) (by simpa using hj),λj hj=>hR.wj j (by rw [<-hs]; exact hj)⟩
 have EL:(S.H.set k d')[i]?=some d2:=Ti;rw [List.getElem?_set] at EL;by_cases hki:k=i
 ·subst hki;rw [if_pos rfl,if_pos pX] at EL;injection EL with EL;subst EL;obtain ⟨_,_,h3,h4⟩:=hR.held k d hd;exact ⟨hB,h2,by rw [pW]; exact h3.ax kk (λj hj hh=>by have jP:o j=-12:=hh; rw [(h4 j hj).1] at jP; exact absurd jP (by decide)),λj hj=>⟨(h4 j hj).1,by rw [hs]; exact (h4 j hj).2⟩⟩
 ·rw [if_neg hki] at EL;obtain ⟨g1,g2,g3,g4⟩:=hR.held i d2 EL;have sx:=(List.getElem?_eq_some_iff.1 EL).1;exact ⟨g1.ax hk λhh=>hki (hR.inj k i pX sx (show h.hb k=h.hb i from hh.symm)),g2,g3.ax kk (λj hj hh=>by have jP:o j=-12:=hh; rw [(g4 j hj).1] at jP; exact absurd jP (by decide)),λj hj=>⟨(g4 j hj).1,by rw [hs]; exact (g4 j hj).2⟩⟩
theorem JZ (hR:Rp ex w b o h S) {k:Nat} {d:Hd} (hd:S.H[k]?=some d) {x y:Int} {K:World->Prop}
  (hK:∀w',Rp ex w' b o h {S with H:=S.H.set k {d with e0:=x,e1:=y}}->af (λj=>o j=-12) w w'->w'.heap.size=w.heap.size->K w') :
  nn (some ⟨h.hb k,0,none⟩) λp=>Vc.st w ((p.add 2).add 0) (.int .i64 x) λw8=>Vc.st w8 ((p.add 2).add 1) (.int .i64 y) K:=by
 obtain ⟨hB,h2,_,_⟩:=hR.held k d hd;refine ay ?_;rw [ag,ag,ag];refine aG hB (by simp) rfl λw1 XJ k1 z1=>?_;refine aG XJ (by simp) rfl λw2 bH k2 z2=>?_;have kk:af (One (h.hb k)) w w2:=k1.trans k2 λ_ _ h=>h;exact hK w2 (hR.JY (d':={d with e0:=x,e1:=y}) hd rfl kk bH (by rw [z2,z1])) (kk.mono λj _ hj=>by rw [show j=h.hb k from hj]; exact h2) (by rw [z2,z1])
end
def goal (S:ES) (d:Hd) (l:Int):Option Int:=
 if 0<vl S (other d l) then none else d.ls.find? λx=>decide (x≠other d l)&&(decide (x≠l)&&decide (0<=vl S x))
def jT (S:ES) (k:Nat) (d:Hd) (l x:Int):ES:={S with H:=S.H.set k {d with e0:=other d l,e1:=x},lists:=S.lists.set (bn x) ((S.lists[bn x]?.getD [])++[k])}
def J1 (i:Nat) (t:Int):Prop:=t=-5\/t=-12\/t=i
theorem U2 {ex:Nat->Prop} {w:World} {b:Nat} {o:Nat->Int} {h:Hs} {S:ES} (hR:Rp ex w b o h S) {k:Nat} {d:Hd} (hd:S.H[k]?=some d) {l:Int} (hl : -9223372036854775808<=l) (ho : -9223372036854775808<=other d l) (hw:∀x∈d.ls,Wi S.nv x) (Bg:d.ls.length<=17592186044416)
  (pW:∀(i:Nat) (ids:List Nat),S.lists[i]?=some ids->ids.length<=17592186044415) (hex:∀x∈d.ls,x≠l->¬ex (bn x)) :
  Calls Tryz.prog 136 #[Pt b,Pt (h.hb k),I l] w λe w'=>
   (e=.returned (.bool false)/\goal S d l=none/\af aq w w')\/∃x,e=.returned (.bool true)/\goal S d l=some x/\x∈d.ls/\x≠l/\Nx (J1 (bn x)) ex w b o h (jT S k d l x) w':=by
 refine (HQ (some ⟨b,0,none⟩) (some ⟨h.hb k,0,none⟩) l w (λv w'=>(v=.bool false/\goal S d l=none/\af aq w w')\/∃x,v=.bool true/\goal S d l=some x/\x∈d.ls/\x≠l/\Nx (J1 (bn x)) ex w b o h (jT S k d l x) w') ?_).mono λe w' ⟨v,he,hk⟩=>?_;rotate_left
 ·rcases hk with ⟨rfl,hk⟩ | ⟨x,rfl,hk⟩
  ·exact Or.inl ⟨he,hk⟩
  ·exact Or.inr ⟨x,he,hk⟩
 unfold aeD;have dS:=hR.nv;refine az Qo (CE hR hd l) λe w1 ⟨he,uN⟩=>⟨_,he,?_⟩
 subst uN;refine hR.uM (hR.val ho λw2 k2=>⟨_,rfl,?_⟩);by_cases nL:0<vl S (other d l)
 ·exact aX (decide_eq_true nL) (Or.inl ⟨rfl,by unfold goal; rw [if_pos nL],k2⟩)
 refine aT (decide_eq_false nL) ?_;have hg:goal S d l=d.ls.find? λx=>decide (x≠other d l)&&(decide (x≠l)&&decide (0<=vl S x)):=by unfold goal; rw [if_neg nL]
 obtain ⟨hB,_,dm,hdo⟩:=(hR.aa k2).held k d hd;have N1:=dm.len;refine ay (au (x:=(h.hl k).1) (n:=(h.hl k).2.1) (c:=(h.hl k).2.2) (by rw [ag]; exact hB.cell 1) ?_);refine bX (λs W=>∃i:Nat,s.1=i/\i<=(h.hl k).2.1/\af aq w1 W/\∀x∈d.ls.take i,(decide (x≠other d l)&&(decide (x≠l)&&decide (0<=vl S x)))=false) (λs _=>((h.hl k).2.1 - s.1).toNat) ⟨0,rfl,Nat.zero_le _,k2,λx hx=>by simp at hx⟩ ?_;rintro ⟨i',⟨⟩⟩ W ⟨i,cW,hi,kW,hv⟩;dsimp only at cW ⊢;subst cW;refine aF (λaM=>?_) λbL=>?_
 ·have aM:i<(h.hl k).2.1:=by simpa using aM
  rw [aA i (by omega)];have pV:=hR.aa kW;obtain ⟨hBW,_,aaJ,_⟩:=pV.held k d hd;refine aaJ.ix aM λa x hx ha=>ah ha ?_;have HV:=List.mem_of_getElem? hx;have EM:=hw x HV;have step:∀{W2:World},af aq w1 W2->(decide (x≠other d l)&&(decide (x≠l)&&decide (0<=vl S x)))=false->
    ((∃i1:Nat,((i+1:Nat):Int)=i1/\i1<=(h.hl k).2.1/\af aq w1 W2/\∀y∈d.ls.take i1,(decide (y≠other d l)&&(decide (y≠l)&&decide (0<=vl S y)))=false)/\(((h.hl k).2.1:Int) - ((i+1:Nat):Int)).toNat<(((h.hl k).2.1:Int) - (i:Int)).toNat):=λ{W2} k2 Tj=>by
   refine ⟨⟨i+1,rfl,aM,k2,λy hy=>?_⟩,by omega⟩;rw [aB hx] at hy;rcases List.mem_append.1 hy with hy | hy
   ·exact hv y hy
   ·rw [List.mem_singleton.1 hy]; exact Tj
  by_cases hc:x≠other d l/\x≠l
  ·have ec:(cond (x != other d l) (x != l) false)=true:=by
    have h1:(x != other d l)=true:=by simpa using hc.1
    have h2:(x != l)=true:=by simpa using hc.2
    rw [h1,h2]; rfl
   rw [ec];refine aS rfl (ay (aS rfl (cN (x:=some ⟨h.T.t,0,none⟩) (by rw [ag]; exact pV.self.cell 2) (aS rfl ?_))));refine pV.val (by have:=EM.2.1; omega) λW2 U3=>⟨_,rfl,?_⟩
   have Qy:=kW.ak U3;by_cases U4:0<=vl S x
   ·refine aX (by rw [decide_eq_true U4]; rfl) ?_;have iM:=hR.aa Qy;have aeI:goal S d l=some x:=by
     rw [hg];have e1:d.ls=d.ls.take i++x :: d.ls.drop (i+1):=by
      obtain ⟨q1,q2⟩:=List.getElem?_eq_some_iff.1 hx;rw [<-q2,<-List.drop_eq_getElem_cons q1,List.take_append_drop]
     rw [e1,List.find?_append];have e2:(d.ls.take i).find? (λx=>decide (x≠other d l)&&(decide (x≠l)&&decide (0<=vl S x)))=none:=by
      rw [List.find?_eq_none];intro y hy; rw [hv y hy]; decide
     have e3:(decide (x≠other d l)&&(decide (x≠l)&&decide (0<=vl S x)))=true:=by
      rw [decide_eq_true hc.1,decide_eq_true hc.2,decide_eq_true U4]; rfl
     rw [e2,Option.none_or,List.find?_cons,e3]
    refine JZ iM hd λw9 hR9 k9 z9=>?_;have aeJ:=hR9.aa (af.refl _ _).drew;have hb9:=aeJ.self;refine ay (au (x:=h.ll.1) (n:=h.ll.2.1) (c:=h.ll.2.2) (by rw [ag]; exact hb9.cell 4) (ay (au (x:=h.ll.1) (n:=h.ll.2.1) (c:=h.ll.2.2) (by rw [ag]; exact hb9.cell 4) ?_)));have sx:=fu EM;obtain ⟨ids,jl⟩:=bg (show bn x<S.lists.length by rw [hR.CB]; exact sx);have hP:=Qw aeJ dS EM (k:=k) jl (hex x HV hc.2) (pW _ _ jl) (K:=λw'=>(Value.bool true=.bool false/\goal S d l=none/\af aq w1 w')\/∃x,Value.bool true=.bool true/\goal S d l=some x/\x∈d.ls/\x≠l/\Nx (J1 (bn x)) ex w1 b o h (jT S k d l x) w') λcK ⟨o',h',akp,ha,fD,hh⟩=>Or.inr ⟨x,rfl,aeI,HV,hc.2,o',h',?_,?_,?_,hh⟩
    ·exact hP
    ·have e1:(S.lists[bn x]?.getD [])=ids:=by rw [jl]; rfl
     unfold jT;rw [e1];exact akp
    ·exact λj hj=>by rw [ha j (by have:w9.drew.heap.size=w9.heap.size:=rfl
                                  have:=Qy.size; omega)]
    ·refine ((Qy.none (S:=λj=>J1 (bn x) (o j))).trans (k9.drew) λj _ hj=>Or.inr (Or.inl hj)).trans fD λj _ hj=>?_;rcases hj with hj | hj
     ·exact Or.inl hj
     ·exact Or.inr (Or.inr hj)
   ·refine aT (by rw [decide_eq_false U4]; rfl) ?_;exact step Qy (by rw [decide_eq_false U4]; simp)
  ·have ec:(cond (x != other d l) (x != l) false)=false:=by
    by_cases h1:x=other d l
    ·have:(x != other d l)=false:=by simpa using h1
     rw [this]; rfl
    ·have h2:x=l:=by
      apply Classical.byContradiction;intro h2; exact hc ⟨h1,h2⟩
     have e1:(x != other d l)=true:=by simpa using h1
     have e2:(x != l)=false:=by simpa using h2
     rw [e1,e2]; rfl
   rw [ec];refine a_ rfl (a_ rfl (a_ rfl (aT rfl (step kW ?_))));by_cases h1:x=other d l
   ·rw [decide_eq_false (λhh=>hh h1)]; rfl
   ·have h2:x=l:=by
     apply Classical.byContradiction;intro h2; exact hc ⟨h1,h2⟩
    rw [decide_eq_false (p:=x≠l) (λhh=>hh h2)]; simp
 ·have bL:i=(h.hl k).2.1:=by simp at bL; omega
  subst bL;rw [<-N1,List.take_length] at hv;refine Or.inl ⟨rfl,?_,kW⟩;rw [hg,List.find?_eq_none];intro y hy; rw [hv y hy]; decide
end bp
namespace bp
open Go Vc T
open bt (cQ aL aA bg aO aB Sl sv mE)
open dw (fl bx qG cZ cD idx bJ cO cH)
open Trail (TI Tr St fR gj ij bW cR eY cL upto bZ dK Open jO)
theorem jU (S:ES) (l:Int):vl S l=1\/vl S l=-1\/vl S l=0:=by
 unfold vl fR;split
 ·split
  ·split
   ·exact Or.inl rfl
   ·exact Or.inr (Or.inl rfl)
  ·exact Or.inr (Or.inr rfl)
 ·exact Or.inr (Or.inr rfl)
theorem CF {nv:Nat} {l:Int} (h:Wi nv l):bW nv l=true:=by
 obtain ⟨h0,h1,h2⟩:=h;unfold bW;simp only [Bool.and_eq_true,decide_eq_true_eq];omega
theorem uO {S:ES} {l:Int} (h:Wi S.nv l) (h0:vl S l=0):bZ S.nv S.R l=0:=by
 have ho:=CF h;unfold vl fR at h0;rw [if_pos ho] at h0;unfold bZ;rw [if_pos ho];cases he:jO S.R l.natAbs with
 | none=>rfl
 | some e=>
  rw [he] at h0;dsimp only at h0;split at h0<;>cases h0
def single (S:ES) (d:Hd):ES×Bool:=
 match d.ls.find? (λl=>decide (0<=vl S l)) with
 | some l=>if vl S l=1 then (S,true) else (kA S l d.at_,true)
 | none=>({S with bad:=d.at_},false)
def cv (l:Int) (acc:ES×List Nat×Bool) (k:Nat):ES×List Nat×Bool:=
 match acc.1.H[k]? with
 | none=>acc
 | some d=>
  if d.gone=true then acc
  else if acc.2.2=false then (acc.1,acc.2.1++[k],false)
  else match goal acc.1 d l with
   | some x=>(jT acc.1 k d l x,acc.2.1,true)
   | none=>
    if vl acc.1 (other d l)<0 then ({acc.1 with bad:=d.at_},acc.2.1++[k],false)
    else if vl acc.1 (other d l)=0 then (kA acc.1 (other d l) d.at_,acc.2.1++[k],true)
    else (acc.1,acc.2.1++[k],true)
def ck (S:ES) (i:Nat):List Nat:=S.lists[i]?.getD []
def lG (S:ES) (l:Int):ES×List Nat×Bool:=(ck S (bn l)).foldl (cv l) ({S with lists:=S.lists.set (bn l) []},[],true)
def visit (S:ES) (l:Int):ES×Bool:=({(lG S l).1 with lists:=(lG S l).1.lists.set (bn l) (lG S l).2.1},(lG S l).2.2)
structure WfE (S:ES):Prop where
 nv:S.nv<=1048576
 hl:∀(k:Nat) (d:Hd),S.H[k]?=some d->(∀x∈d.ls,Wi S.nv x)/\d.ls.Nodup/\d.ls.length<=2097153/\0<=d.at_
 cl:S.H.length<=8796093022208
 ll:S.lists.length=2*S.nv
 nd:∀(i:Nat) (ids:List Nat),S.lists[i]?=some ids->ids.Nodup
 w1:∀(i k:Nat) (ids:List Nat),S.lists[i]?=some ids->k∈ids->∃d,S.H[k]?=some d/\d.e0∈d.ls/\d.e1∈d.ls/\d.e0≠d.e1/\(i=bn d.e0\/i=bn d.e1)
theorem zl {l:List Nat} {n:Nat} (hn:l.Nodup) (hs:∀x∈l,x<n):l.length<=n:=by
 have h:=Trail.mC n (l.map (·+1)) (by
  rw [List.Nodup,List.pairwise_map];exact hn.imp λbz he=>bz (by omega)) (λx hx=>by
   obtain ⟨y,hy,rfl⟩:=List.mem_map.1 hx;have:=hs y hy;omega)
 simpa using h
theorem WfE.len {S:ES} (h:WfE S) {i:Nat} {ids:List Nat} (hi:S.lists[i]?=some ids):ids.length<=S.H.length:=
 zl (h.nd i ids hi) λk hk=>by
  obtain ⟨d,hd,_⟩:=h.w1 i k ids hi hk;exact (List.getElem?_eq_some_iff.1 hd).1
structure VI (l:Int) (S:ES) (todo stay:List Nat):Prop where
 wf:WfE S
 Oc:Wi S.nv l
 lp:S.lists[bn l]?=some []
 nd:(todo++stay).Nodup
 td:∀k∈todo++stay,∃d,S.H[k]?=some d/\d.e0∈d.ls/\d.e1∈d.ls/\d.e0≠d.e1/\(l=d.e0\/l=d.e1)
theorem lH {d:Hd} {l:Int} (h:l=d.e0\/l=d.e1) (bz:d.e0≠d.e1):(other d l=d.e0\/other d l=d.e1)/\other d l≠l/\(d.e0=l\/d.e0=other d l)/\(d.e1=l\/d.e1=other d l):=by
 unfold other;by_cases h0:d.e0=l
 ·rw [if_pos h0]; exact ⟨Or.inr rfl,λe=>bz (h0.trans e.symm),Or.inl h0,Or.inr rfl⟩
 ·rw [if_neg h0];rcases h with h | h
  ·exact absurd h.symm h0
  ·exact ⟨Or.inl rfl,h0,Or.inr rfl,Or.inl h.symm⟩
theorem Bx {S:ES} {d:Hd} {l x:Int} (h:goal S d l=some x):x∈d.ls/\x≠other d l/\x≠l/\0<=vl S x/\¬0<vl S (other d l):=by
 unfold goal at h;split at h
 ·cases h
 ·rename_i hn;have h1:=List.mem_of_find?_eq_some h;have h2:=List.find?_some h;simp only [Bool.and_eq_true,decide_eq_true_eq] at h2;exact ⟨h1,h2.1,h2.2.1,h2.2.2,hn⟩
section
variable {l:Int} {S:ES} {k:Nat} {d:Hd} {todo stay:List Nat}
theorem VI.skip (h:VI l S (k :: todo) stay):VI l S todo stay:=
 ⟨h.wf,h.Oc,h.lp,by have:=h.nd; rw [List.cons_append,List.nodup_cons] at this; exact this.2,λj hj=>h.td j (by rw [List.cons_append]; exact List.mem_cons_of_mem _ hj)⟩
theorem VI.stays (h:VI l S (k :: todo) stay):VI l S todo (stay++[k]):=by
 have hp:(todo++(stay++[k])).Perm (k :: todo++stay):=by
  rw [<-List.append_assoc];exact (List.perm_append_singleton k (todo++stay))
 exact ⟨h.wf,h.Oc,h.lp,hp.nodup_iff.2 h.nd,λj hj=>h.td j (hp.subset hj)⟩
theorem WfE.put (h:WfE S) (l r:Int):WfE (kA S l r):=⟨h.nv,h.hl,h.cl,h.ll,h.nd,h.w1⟩
theorem VI.put (h:VI l S todo stay) (x r:Int):VI l (kA S x r) todo stay:=⟨h.wf.put x r,h.Oc,h.lp,h.nd,h.td⟩
theorem VI.bad (h:VI l S todo stay) (r:Int):VI l {S with bad:=r} todo stay:=⟨⟨h.wf.nv,h.wf.hl,h.wf.cl,h.wf.ll,h.wf.nd,h.wf.w1⟩,h.Oc,h.lp,h.nd,h.td⟩
theorem VI.move (h:VI l S (k :: todo) stay) (hd:S.H[k]?=some d) {x:Int} (hx:goal S d l=some x):VI l (jT S k d l x) todo stay:=by
 obtain ⟨x1,x2,x3,x4,x5⟩:=Bx hx;obtain ⟨d0,Dn,e1,e2,e3,e4⟩:=h.td k (by simp);rw [hd] at Dn; injection Dn with Dn; subst Dn;obtain ⟨o1,o2,o3,o4⟩:=lH e4 e3;have pX:=(List.getElem?_eq_some_iff.1 hd).1;have dS:=h.wf.nv;obtain ⟨hw,pS,hlen,yx⟩:=h.wf.hl k d hd;have EM:=hw x x1;have F1:Wi S.nv (other d l):=by rcases o1 with o1 | o1<;>rw [o1]; exact hw _ e1; exact hw _ e2
 have D8:bn x≠bn l:=λe=>x3 (jR dS EM h.Oc e);have yw:bn x≠bn (other d l):=λe=>x2 (jR dS EM F1 e);have MC:=fu EM;obtain ⟨ids,jl⟩:=bg (show bn x<S.lists.length by rw [h.wf.ll]; exact MC);have xU:S.lists[bn x]?.getD []=ids:=by rw [jl]; rfl
 have SP:other d l∈d.ls:=by rcases o1 with o1 | o1<;>rw [o1]; exact e1; exact e2
 -- where yf clause aoe
 have Qz:∀(i:Nat) (js:List Nat),S.lists[i]?=some js->k∈js->i=bn (other d l):=λi js hi hk=>by
  obtain ⟨d1,tg,_,_,_,hh⟩:=h.wf.w1 i k js hi hk;rw [hd] at tg; injection tg with tg; subst tg;have sx:i≠bn l:=λe=>by
   rw [e,h.lp] at hi; injection hi with hi; rw [<-hi] at hk; cases hk
  rcases hh with hh | hh
  ·rcases o3 with o3 | o3
   ·rw [o3] at hh; exact absurd hh sx
   ·rw [hh,o3]
  ·rcases o4 with o4 | o4
   ·rw [o4] at hh; exact absurd hh sx
   ·rw [hh,o4]
 have Eg:k∉ids:=λhk=>yw (Qz _ ids jl hk);have hHk:∀(j:Nat),(S.H.set k {d with e0:=other d l,e1:=x})[j]?=if k=j then some {d with e0:=other d l,e1:=x} else S.H[j]?:=λj=>by
  rw [List.getElem?_set];by_cases f_:k=j
  ·rw [if_pos f_,if_pos pX,if_pos f_]
  ·rw [if_neg f_,if_neg f_]
 refine ⟨⟨dS,λj d1 hj=>?_,by show (S.H.set k _).length<=_; rw [List.length_set]; exact h.wf.cl,by show (S.lists.set _ _).length=_; rw [List.length_set]; exact h.wf.ll,λi js hi=>?_,λi j js hi hj=>?_⟩,h.Oc,?_,h.skip.nd,λj hj=>?_⟩
 ·have lW:(S.H.set k {d with e0:=other d l,e1:=x})[j]?=some d1:=hj;rw [hHk] at lW;by_cases f_:k=j
  ·rw [if_pos f_] at lW; injection lW with lW; rw [<-lW]; exact ⟨hw,pS,hlen,yx⟩
  ·rw [if_neg f_] at lW; exact h.wf.hl j d1 lW
 ·have cW:(S.lists.set (bn x) (S.lists[bn x]?.getD []++[k]))[i]?=some js:=hi;rw [xU] at cW;by_cases hix:i=bn x
  ·rw [hix,List.getElem?_set_self (by rw [h.wf.ll]; exact MC)] at cW;injection cW with cW;rw [<-cW];exact List.nodup_append.2 ⟨h.wf.nd _ ids jl,by simp,λa ha c hc=>by rw [List.mem_singleton.1 hc]; exact λe=>Eg (e ▸ ha)⟩
  ·rw [List.getElem?_set_ne (λe=>hix e.symm)] at cW;exact h.wf.nd i js cW
 ·have cW:(S.lists.set (bn x) (S.lists[bn x]?.getD []++[k]))[i]?=some js:=hi;rw [xU] at cW;have jH:∀{js':List Nat},S.lists[i]?=some js'->j∈js'->∃d1,(S.H.set k {d with e0:=other d l,e1:=x})[j]?=some d1/\d1.e0∈d1.ls/\d1.e1∈d1.ls/\d1.e0≠d1.e1/\(i=bn d1.e0\/i=bn d1.e1):=λ{js'} hjs hj=>by
   rw [hHk];by_cases f_:k=j
   ·subst f_;rw [if_pos rfl];exact ⟨_,rfl,SP,x1,Ne.symm x2,Or.inl (Qz i js' hjs hj)⟩
   ·rw [if_neg f_]; exact h.wf.w1 i j js' hjs hj
  by_cases hix:i=bn x
  ·have JI:=cW;rw [hix,List.getElem?_set_self (by rw [h.wf.ll]; exact MC)] at JI;injection JI with JI;rw [<-JI] at hj;rcases List.mem_append.1 hj with hj | hj
   ·exact jH (by rw [hix]; exact jl) hj
   ·rw [List.mem_singleton.1 hj];show ∃d1,(S.H.set k {d with e0:=other d l,e1:=x})[k]?=some d1/\_;rw [hHk,if_pos rfl];exact ⟨_,rfl,SP,x1,Ne.symm x2,Or.inr hix⟩
  ·rw [List.getElem?_set_ne (λe=>hix e.symm)] at cW;exact jH cW hj
 ·show (S.lists.set (bn x) _)[bn l]?=some [];rw [List.getElem?_set_ne D8]; exact h.lp
 ·have Tk:k≠j:=λe=>by
   have:=h.nd;rw [List.cons_append,List.nodup_cons] at this;exact this.1 (e ▸ hj)
  obtain ⟨d1,tg,r⟩:=h.td j (by rw [List.cons_append]; exact List.mem_cons_of_mem _ hj);refine ⟨d1,?_,r⟩;show (S.H.set k _)[j]?=some d1;rw [List.getElem?_set_ne Tk]; exact tg
theorem VI.step {ok:Bool} (h:VI l S (k :: todo) stay):VI l (cv l (S,stay,ok) k).1 todo (cv l (S,stay,ok) k).2.1:=by
 obtain ⟨d,hd,_⟩:=h.td k (by simp);unfold cv;rw [hd];dsimp only;by_cases hg:d.gone=true
 ·rw [if_pos hg]; exact h.skip
 rw [if_neg hg];by_cases mN:ok=false
 ·rw [if_pos mN]; exact h.stays
 rw [if_neg mN];cases hx:goal S d l with
 | some x=>exact h.move hd hx
 | none=>
  dsimp only;split
  ·exact h.stays.bad _
  ·split
   ·exact h.stays.put _ _
   ·exact h.stays
theorem VI.done (h:VI l S [] stay):WfE {S with lists:=S.lists.set (bn l) stay}:=by
 have aM:=fu h.Oc;refine ⟨h.wf.nv,h.wf.hl,h.wf.cl,by show (S.lists.set _ _).length=_; rw [List.length_set]; exact h.wf.ll,λi js hi=>?_,λi j js hi hj=>?_⟩
 ·have cW:(S.lists.set (bn l) stay)[i]?=some js:=hi;by_cases sx:i=bn l
  ·rw [sx,List.getElem?_set_self (by rw [h.wf.ll]; exact aM)] at cW;injection cW with cW;rw [<-cW]; have:=h.nd; rwa [List.nil_append] at this
  ·rw [List.getElem?_set_ne (λe=>sx e.symm)] at cW;exact h.wf.nd i js cW
 ·have cW:(S.lists.set (bn l) stay)[i]?=some js:=hi;by_cases sx:i=bn l
  ·rw [sx,List.getElem?_set_self (by rw [h.wf.ll]; exact aM)] at cW;injection cW with cW;rw [<-cW] at hj;obtain ⟨d,hd,a,b,c,e⟩:=h.td j (by simpa using hj);exact ⟨d,hd,a,b,c,by rcases e with e | e; exact Or.inl (by rw [sx,e]); exact Or.inr (by rw [sx,e])⟩
  ·rw [List.getElem?_set_ne (λe=>sx e.symm)] at cW;exact h.wf.w1 i j js cW hj
theorem VI.start (h:WfE S) (hl:Wi S.nv l):VI l {S with lists:=S.lists.set (bn l) []} (ck S (bn l)) []:=by
 have aM:=fu hl;obtain ⟨ids,jl⟩:=bg (show bn l<S.lists.length by rw [h.ll]; exact aM);have xU:ck S (bn l)=ids:=by unfold ck; rw [jl]; rfl
 rw [xU];refine ⟨⟨h.nv,h.hl,h.cl,by show (S.lists.set _ _).length=_; rw [List.length_set]; exact h.ll,λi js hi=>?_,λi j js hi hj=>?_⟩,hl,List.getElem?_set_self (by rw [h.ll]; exact aM),by rw [List.append_nil]; exact h.nd _ ids jl,λk hk=>?_⟩
 ·have cW:(S.lists.set (bn l) [])[i]?=some js:=hi;by_cases sx:i=bn l
  ·rw [sx,List.getElem?_set_self (by rw [h.ll]; exact aM)] at cW;injection cW with cW; rw [<-cW]; exact List.nodup_nil
  ·rw [List.getElem?_set_ne (λe=>sx e.symm)] at cW; exact h.nd i js cW
 ·have cW:(S.lists.set (bn l) [])[i]?=some js:=hi;by_cases sx:i=bn l
  ·rw [sx,List.getElem?_set_self (by rw [h.ll]; exact aM)] at cW;injection cW with cW; rw [<-cW] at hj; cases hj
  ·rw [List.getElem?_set_ne (λe=>sx e.symm)] at cW; exact h.w1 i j js cW hj
 ·rw [List.append_nil] at hk;obtain ⟨d,hd,a,b,c,e⟩:=h.w1 _ k ids jl hk;have hw:=(h.hl k d hd).1;exact ⟨d,hd,a,b,c,by rcases e with e | e; exact Or.inl (jR h.nv hl (hw _ a) e); exact Or.inr (jR h.nv hl (hw _ b) e)⟩
end
end bp
namespace bp
open Go Vc T
open bt (cQ aL aA bg aO aB Sl sv mE)
open dw (fl bx qG cZ cD idx bJ cO cH)
open mT (Ar AR)
open Trail (TI Tr St fR gj ij bW cR eY cL upto bZ dK Open)
theorem cm {α:Type} {l:List α} {i:Nat} {x:α} (h:l[i]?=some x):l.take (i+1)=l.take i++[x]:=by rw [List.take_add_one,h]; rfl
def dU:Nat->Prop:=λ_=>False
section
variable {ex:Nat->Prop} {w w' w1:World} {b:Nat} {o o1:Nat->Int} {h h1:Hs} {S S1 S2:ES} {T T':Int->Prop}
theorem Rp.rK (hR:Rp ex w b o h S) {hd:Nat} {r c d:Bool} {x:Int} (hk:af (One b) w w') (hB:b_ w' b [I S.nv,Pt h.st,Pt h.T.t,sv h.oo,sv h.ll,sv h.ss,sv h.le,.iface 112 (Pt h.bk),I hd,.bool r,.bool c,.bool d,I x] 120) (hs:w'.heap.size=w.heap.size) :
  Rp ex w' b o h {S with head:=hd,rest:=r,aQ:=c,dead:=d,bad:=x}:=by
 have kk:af (λj=>(λt:Int=>t=-1) (o j)) w w':=hk.mono λj _ hj=>by rw [show j=b from hj]; exact hR.cC
 exact ⟨hB,hR.cC,Rp.Te (h:=h) (S:=S) (T:=λt=>t=-1) hR kk (by decide),Rp.UR (h:=h) (S:=S) (T:=λt=>t=-1) hR kk (by decide),hR.Ak,ct (T:=λt=>t=-1) hR.oo hR.sZ kk (by decide),hR.sZ,ct (T:=λt=>t=-1) hR.out hR.jQ kk (by decide),hR.jQ,hR.Bv,hR.CB,
  Rp.zg (h:=h) (S:=S) (T:=λt=>t=-1) hR kk (λi hi=>⟨hi,by omega⟩),Rp.jS (h:=h) (S:=S) (T:=λt=>t=-1) hR kk,ct (T:=λt=>t=-1) hR.sh hR.wg kk (by decide),hR.wg,ct (T:=λt=>t=-1) hR.le hR.wh kk (by decide),hR.wh,fZ (T:=λt=>t=-1) hR.bk hR.uK kk (by decide),hR.uK,ct (T:=λt=>t=-1) hR.lg hR.xm kk (by decide),hR.xm,hR.AP,
  Rp.Tf (h:=h) (S:=S) (T:=λt=>t=-1) hR kk (by decide),Rp.s_ (h:=h) (S:=S) (T:=λt=>t=-1) hR kk (by decide) (by decide),hR.inj,λj hj=>hR.wj j (by rw [<-hs]; exact hj)⟩
theorem Rp.XK (hR:Rp ex w b o h S) {hd:Nat} {r c d:Bool} {x:Int} (hT:T (-1)) (hk:af (One b) w w') (hB:b_ w' b [I S.nv,Pt h.st,Pt h.T.t,sv h.oo,sv h.ll,sv h.ss,sv h.le,.iface 112 (Pt h.bk),I hd,.bool r,.bool c,.bool d,I x] 120) (hs:w'.heap.size=w.heap.size) :
  Nx T ex w b o h {S with head:=hd,rest:=r,aQ:=c,dead:=d,bad:=x} w':=
 ⟨o,h,hR.rK hk hB hs,Ag.refl _ _,hk.mono λj _ hj=>by rw [show j=b from hj,hR.cC]; exact hT,rfl⟩
theorem Nx.refl (hR:Rp ex w b o h S):Nx T ex w b o h S w:=⟨o,h,hR,Ag.refl _ _,(af.refl aq w).none,rfl⟩
theorem Nx.aa (hN:Nx T ex w b o h S w1) (hk:af aq w1 w'):Nx T ex w b o h S w':=by
 obtain ⟨o',h',a,b',c,d⟩:=hN;exact ⟨o',h',a.aa hk,b',c.ak hk,d⟩
theorem Nx.before (hk:af aq w w1) (hN:Nx T ex w1 b o h S w'):Nx T ex w b o h S w':=by
 obtain ⟨o',h',a,b',c,d⟩:=hN;exact ⟨o',h',a,λj hj=>b' j (Nat.lt_of_lt_of_le hj hk.size),(hk.none (S:=λj=>T (o j))).trans c λ_ _ h=>h,d⟩
theorem Nx.mono (hN:Nx T ex w b o h S w') (hT:∀t,T t->T' t):Nx T' ex w b o h S w':=by
 obtain ⟨o',h',a,b',c,d⟩:=hN;exact ⟨o',h',a,b',c.mono λj _ hj=>hT _ hj,d⟩
theorem Nx.bind (hN:Nx T ex w b o h S w1) (hK:∀o1 h1,Rp ex w1 b o1 h1 S->h1.hb=h.hb->Nx T ex w1 b o1 h1 S2 w'):Nx T ex w b o h S2 w':=by
 obtain ⟨o1,h1,r1,a1,k1,e1⟩:=hN;obtain ⟨o2,h2,r2,a2,k2,e2⟩:=hK o1 h1 r1 e1;exact ⟨o2,h2,r2,a1.trans a2 k1.size,k1.trans k2 λj hj hh=>by rw [<-a1 j hj]; exact hh,e2.trans e1⟩
end
theorem QA {ex:Nat->Prop} {w:World} {b:Nat} {o:Nat->Int} {h:Hs} {S:ES} (hR:Rp ex w b o h S) {k:Nat} {d:Hd} (hd:S.H[k]?=some d) (yx:0<=d.at_) (hw:∀x∈d.ls,Wi S.nv x) (Bg:d.ls.length<=17592186044416) :
  Calls Tryz.prog 111 #[Pt b,Pt (h.hb k)] w λe w'=>e=.returned (.bool (single S d).2)/\Nx cI ex w b o h (single S d).1 w':=by
 refine (HG (some ⟨b,0,none⟩) (some ⟨h.hb k,0,none⟩) w (λv w'=>v=.bool (single S d).2/\Nx cI ex w b o h (single S d).1 w') ?_).mono λe w' ⟨v,he,hv,hk⟩=>⟨by rw [he,hv],hk⟩
 unfold aeq;have dS:=hR.nv;obtain ⟨hB,_,dm,hdo⟩:=hR.held k d hd;have N1:=dm.len;refine ay (au (x:=(h.hl k).1) (n:=(h.hl k).2.1) (c:=(h.hl k).2.2) (by rw [ag]; exact hB.cell 1) ?_);refine bX (λs W=>∃i:Nat,s.1=i/\i<=(h.hl k).2.1/\af aq w W/\∀x∈d.ls.take i,decide (0<=vl S x)=false) (λs _=>((h.hl k).2.1 - s.1).toNat) ⟨0,rfl,Nat.zero_le _,af.refl _ _,λx hx=>by simp at hx⟩ ?_;rintro ⟨i',⟨⟩⟩ W ⟨i,cW,hi,kW,hv⟩;dsimp only at cW ⊢;subst cW;have pV:=hR.aa kW;obtain ⟨hBW,_,aaJ,_⟩:=pV.held k d hd;refine aF (λaM=>?_) λbL=>?_
 ·have aM:i<(h.hl k).2.1:=by simpa using aM
  rw [aA i (by omega)];refine aaJ.ix aM λa x hx ha=>ah ha ?_;have HV:=List.mem_of_getElem? hx;have EM:=hw x HV;refine pV.uM (pV.val (by have:=EM.2.1; omega) λW2 U3=>⟨_,rfl,?_⟩);have Qy:=kW.ak U3;have e1:d.ls=d.ls.take i++x :: d.ls.drop (i+1):=by
   obtain ⟨q1,q2⟩:=List.getElem?_eq_some_iff.1 hx;rw [<-q2,<-List.drop_eq_getElem_cons q1,List.take_append_drop]
  have e2:(d.ls.take i).find? (λx=>decide (0<=vl S x))=none:=by
   rw [List.find?_eq_none];intro y hy; rw [hv y hy]; decide
  have XL:0<=vl S x->d.ls.find? (λx=>decide (0<=vl S x))=some x:=λh0=>by
   rw [e1,List.find?_append,e2,Option.none_or,List.find?_cons,decide_eq_true h0]
  rcases jU S x with h1 | h1 | h1
  ·rw [h1];have hs:single S d=(S,true):=by unfold single; rw [XL (by omega)]; dsimp only; rw [if_pos h1]
   rw [hs];exact aX rfl ⟨rfl,Nx.aa (Nx.refl hR) Qy⟩
  ·rw [h1];refine aT rfl (aT rfl ⟨⟨i+1,rfl,aM,Qy,λy hy=>?_⟩,by omega⟩);rw [aB hx] at hy;rcases List.mem_append.1 hy with hy | hy
   ·exact hv y hy
   ·rw [List.mem_singleton.1 hy,h1]; rfl
  ·rw [h1];have hs:single S d=(kA S x d.at_,true):=by unfold single; rw [XL (by omega)]; dsimp only; rw [if_neg (by omega)]
   rw [hs];refine aT rfl (aX rfl (az Qi (Qx (hR.aa Qy) hd yx (by have:=EM.2.1; omega) (uO EM h1)) λe w3 ⟨he,hN⟩=>⟨he,rfl,hN.before Qy⟩))
 ·have bL:i=(h.hl k).2.1:=by simp at bL; omega
  subst bL;rw [<-N1,List.take_length] at hv;have hs:single S d=({S with bad:=d.at_},false):=by
   unfold single;have:d.ls.find? (λx=>decide (0<=vl S x))=none:=by
    rw [List.find?_eq_none]; intro y hy; rw [hv y hy]; decide
   rw [this]
  rw [hs];refine ay (ah (x:=d.at_) (by rw [ag]; exact hBW.cell 0) (ay ?_));rw [ag,ag];refine aG pV.self (by simp) rfl λw4 gJ k4 z4=>⟨rfl,Nx.before kW (pV.XK (T:=cI) (Or.inl rfl) k4 gJ z4)⟩
theorem U5 {w:World} {b:Nat} {o:Nat->Int} {h:Hs} {S:ES} (hR:Rp dU w b o h S) (hW:WfE S) {l:Int} (hl:Wi S.nv l) :
  Calls Tryz.prog 112 #[Pt b,I l] w λe w'=>e=.returned (.bool (visit S l).2)/\Nx cA dU w b o h (visit S l).1 w':=by
 refine (HH (some ⟨b,0,none⟩) l w (λv w'=>v=.bool (visit S l).2/\Nx cA dU w b o h (visit S l).1 w') ?_).mono λe w' ⟨v,he,hv,hk⟩=>⟨by rw [he,hv],hk⟩
 unfold aes;have dS:=hR.nv;have kI:=iA dS hl;have UY:=yu dS hl;have hi:=fu hl;obtain ⟨x,hx⟩:=bg (show bn l<h.hh.length by rw [hR.Bv]; exact hi);obtain ⟨ids,jl⟩:=bg (show bn l<S.lists.length by rw [hR.CB]; exact hi);have xU:ck S (bn l)=ids:=by unfold ck; rw [jl]; rfl
 have th:∀{V:World} {o1:Nat->Int} {h1:Hs} {S1:ES} {ex1:Nat->Prop},Rp ex1 V b o1 h1 S1->∀{K:Option Addr->Nat->Nat->Prop},K h1.ll.1 h1.ll.2.1 h1.ll.2.2->aZ V ((⟨b,0,none⟩:Addr).add 4) K:=λ{V o1 h1 S1 ex1} MD {K} hK=>by
  rw [ag];exact au (x:=h1.ll.1) (n:=h1.ll.2.1) (c:=h1.ll.2.2) (MD.self.cell 4) hK
 refine az Eb (cH kI) λe w1 ⟨he,k1⟩=>⟨_,he,?_⟩
 have rL:=hR.aa k1;have z1:=k1.size;rw [UY];refine ay (th rL (rL.EG hx λa ha=>au (x:=x.1) (n:=x.2.1) (c:=x.2.2) ha (ay (th rL ?_))));have hOx:=rL.we _ x ids hx jl (λh=>h);have yw:=hR.xT _ x hx;have hxn:=jJ hOx;have aof:=hW.len jl;have g_:=hW.cl;have akq:Rp (λj=>dU j\/j=bn l) w1 b o h S:=rL.Qp λj hj=>hj.elim;refine HT (g:=(none,0,0)) (MB:=[]) akq hi (bR.nil _ _ _) (λj ⟨a,hh,_⟩=>by cases hh) λw2 iM k2=>?_;have z2:=k2.size;have akr:bR w2 124 1 x.1 x.2.1 x.2.2 (ids.map λk=>Pt (h.hb k)):=hOx.ax k2 λj hj hh=>by have:=(yw j hj).1; have jP:o j=-5:=hh; omega
 have uP:af (λi=>cA (o i)) w w2:=(af.none k1).trans k2 λj _ hh=>by have jP:o j=-5:=hh; show o j≠ -9; omega
 have iL:=VI.start hW hl;rw [xU] at iL;have evl:lG S l=ids.foldl (cv l) ({S with lists:=S.lists.set (bn l) []},[],true):=by unfold lG; rw [xU]
 refine bX (λs W=>∃(i:Nat) (S1:ES) (stay:List Nat) (o1:Nat->Int) (h1:Hs),s.2.2.1=(i:Int)/\i<=ids.length/\(ids.take i).foldl (cv l) ({S with lists:=S.lists.set (bn l) []},[],true)=(S1,stay,s.1)/\VI l S1 (ids.drop i) stay/\S1.nv=S.nv/\
   Rp dU W b o1 h1 S1/\h1.hb=h.hb/\bR W 124 1 s.2.1.1 s.2.1.2.1 s.2.1.2.2 (stay.map λk=>Pt (h.hb k))/\(∀j,ob s.2.1.1 j->w.heap.size<=j/\o1 j=-9)/\
   bR W 124 1 x.1 x.2.1 x.2.2 (ids.map λk=>Pt (h.hb k))/\Ag w o o1/\af (λi=>cA (o i)) w W) (λs _=>(ids.length - s.2.2.1).toNat)
  ⟨0,_,[],o,_,rfl,Nat.zero_le _,rfl,iL,rfl,iM,rfl,bR.nil _ _ _,(λj ⟨a,hh,_⟩=>by cases hh),akr,Ag.refl _ _,uP⟩ ?_
 rintro ⟨ok,⟨sp,sn,sc⟩,i',⟨⟩⟩ W ⟨i,S1,stay,o1,h1,rfl,Lq,pn,QB,xV,xu,Al,hSt,AT,hXi,uQ,CG⟩;dsimp only at pn hSt AT ⊢;have zW:=CG.size;have U6:=jJ hSt;have aks:=QB.wf.cl;have aoz:stay.length<=8796093022208:=by
  refine Nat.le_trans (zl (List.nodup_append.1 QB.nd).2.1 λk hk=>?_) aks;obtain ⟨d,hd,_⟩:=QB.td k (List.mem_append_right _ hk);exact (List.getElem?_eq_some_iff.1 hd).1
 have aoA:∀j,ob x.1 j->o1 j=bn l:=λj hj=>by rw [uQ j (yw j hj).2]; exact (yw j hj).1
 refine aF (λaM=>?_) λbL=>?_
 ·have aM:i<ids.length:=by have:(i:Int)<(x.2.1:Int):=by simpa using aM
                           omega
  rw [aA i (by omega)];obtain ⟨k,hk⟩:=bg aM;have edr:ids.drop i=k :: ids.drop (i+1):=by
   obtain ⟨lU,EN⟩:=List.getElem?_eq_some_iff.1 hk;rw [List.drop_eq_getElem_cons lU,EN]
  rw [edr] at QB;obtain ⟨d,hd,akt,aku,akv,Bg⟩:=QB.td k (by simp);obtain ⟨QC,aoB,aog,HW⟩:=QB.wf.hl k d hd;have J2:=QB.step (ok:=ok);have U7:(ids.take (i+1)).foldl (cv l) ({S with lists:=S.lists.set (bn l) []},[],true)=cv l (S1,stay,ok) k:=by
   rw [cm hk,List.foldl_append,pn]; rfl
  refine ⟨λs W'=>∃(S2:ES) (st2:List Nat) (o2:Nat->Int) (h2:Hs),cv l (S1,stay,ok) k=(S2,st2,s.1)/\S2.nv=S.nv/\Rp dU W' b o2 h2 S2/\h2.hb=h.hb/\bR W' 124 1 s.2.1.1 s.2.1.2.1 s.2.1.2.2 (st2.map λk=>Pt (h.hb k))/\(∀j,ob s.2.1.1 j->w.heap.size<=j/\o2 j=-9)/\
   bR W' 124 1 x.1 x.2.1 x.2.2 (ids.map λk=>Pt (h.hb k))/\Ag w o o2/\af (λi=>cA (o i)) w W',?_,?_⟩
  rotate_left
  ·rintro ⟨ok',⟨p',n',c'⟩,⟨⟩⟩ W' ⟨S2,st2,o2,h2,q0,q2,q3,q4,q5,q6,q7,q8,q9⟩;rw [q0] at J2 U7;exact ⟨⟨i+1,S2,st2,o2,h2,rfl,aM,U7,J2,q2,q3,q4,q5,q6,q7,q8,q9⟩,by omega⟩
  -- U8 a step of yf QD leaves
  have after:∀{W1 W2:World} {T:Int->Prop} {S2:ES} {o2:Nat->Int} {h2:Hs} {sp:Option Addr} {sn sc:Nat} {st:List Nat},af (λi=>cA (o i)) w W1->bR W1 124 1 sp sn sc (st.map λk=>Pt (h.hb k))->(∀j,ob sp j->w.heap.size<=j/\o2 j=-9)->bR W1 124 1 x.1 x.2.1 x.2.2 (ids.map λk=>Pt (h.hb k))->Ag w o o2->h2.hb=h.hb->
    Nx T dU W1 b o2 h2 S2 W2->¬T (-9)->¬T (bn l)->∃(o3:Nat->Int) (h3:Hs),Rp dU W2 b o3 h3 S2/\h3.hb=h.hb/\bR W2 124 1 sp sn sc (st.map λk=>Pt (h.hb k))/\(∀j,ob sp j->w.heap.size<=j/\o3 j=-9)/\bR W2 124 1 x.1 x.2.1 x.2.2 (ids.map λk=>Pt (h.hb k))/\Ag w o o3/\af (λi=>cA (o i)) w W2:=by
   intro W1 W2 T S2 o2 h2 sp sn sc st kW hS B3 hX ha eh ⟨o3,h3,oD,ha3,k3,e3⟩ ht9 SY;refine ⟨o3,h3,oD,e3.trans eh,ct (t:=-9) hS (λj hj=>(B3 j hj).2) k3 ht9,λj hj=>⟨(B3 j hj).1,by rw [ha3 j (hS.lt j hj)]; exact (B3 j hj).2⟩,ct (t:=bn l) hX (λj hj=>by rw [ha j (yw j hj).2]; exact (yw j hj).1) k3 SY,ha.trans ha3 kW.size,kW.trans k3 λj hj hh=>?_⟩;have jP:T (o2 j):=hh;rw [ha j hj] at jP;exact λe=>ht9 (e ▸ jP)
  have aeK:=hXi;refine hXi.ix (by omega) (by omega) λbq CH=>?_;rw [CH] at aeK;refine cN (x:=some ⟨h.hb k,0,none⟩) (by rw [aeK.cell _ (by omega),Int.toNat_natCast,Nat.mul_one,List.getElem?_map,hk]; rfl) ?_;obtain ⟨hBd,_,_,_⟩:=xu.held k d hd;rw [Al] at hBd;refine ay (dX (x:=d.gone) (by rw [ag]; exact hBd.cell 4) ?_)
  -- k stays
  have stays:∀(W5:World),af aq W W5->∀{K:Option Addr->Nat->Nat->World->Prop},
    (∀(g:Sl) (w':World),Rp dU w' b o1 h1 S1->bR w' 124 1 g.1 g.2.1 g.2.2 ((stay++[k]).map λk=>Pt (h.hb k))->(∀j,ob g.1 j->w.heap.size<=j/\o1 j=-9)->bR w' 124 1 x.1 x.2.1 x.2.2 (ids.map λk=>Pt (h.hb k))->af (λi=>cA (o i)) w w'->K g.1 g.2.1 g.2.2 w')->
    cg W5 [Pt (h.hb k)] 124 λb43 w8=>∃(j_:Option Addr) (gM iJ:Nat),∃w9:World,(Builtin.append_ #[115,115] 115 #[.slice sp sn sc,.slice (some (⟨b43,0,none⟩:Addr)) 1 1]).run Tryz.prog w8=.ok (.slice j_ gM iJ) w9/\K j_ gM iJ w9:=by
   intro W5 kW5 K hK;refine aD λbb w8 Ld hB k8=>?_;have Oe:=kW5.ak k8;have akw:=hSt.aa Oe;have hR8:=xu.aa Oe;have hX8:=hXi.aa Oe;have z8:=Oe.size;refine fI (e:=124) (sz:=1) (z:=.pointer none) (B:=8) Tryz.underlying115 (by kernel_rfl) rfl (by omega) akw hB.kU (λu hu=>?_) (by simp only [maxLen]; omega) (by omega) λp' c' w' pT e_=>?_
   ·simp only [List.mem_singleton] at hu; subst hu; rfl
   have kk:af (ob sp) w8 w':=by
    rcases e_ with ⟨_,_,_,kk⟩ | ⟨_,kk⟩
    ·exact kk
    ·exact kk.none
   refine hK (p',sn+1,c') w' (hR8.Bw kk λj hj hh=>(AT j hh).2) (by rw [List.map_append]; exact pT) (λj hj=>?_) (hX8.ax kk λj hj hh=>by have:=(AT j hh).1; have:=(yw j hj).2; omega) ((CG.ak Oe).trans kk λj hj hh=>by have:=(AT j hh).1; omega);rcases e_ with ⟨e,_,_,_⟩ | ⟨e,_⟩
   ·exact AT j (by rw [e] at hj; exact hj)
   ·exact ⟨by have:=e j hj; omega,xu.wj j (by have:=e j hj; omega)⟩
  have aaK:∀{a:ES×List Nat×Bool},d.gone=true->cv l (S1,stay,ok) k=(S1,stay,ok):=λ{a} hg=>by
   unfold cv; dsimp only; rw [hd]; dsimp only; rw [if_pos hg]
  by_cases hg:d.gone=true
  ·rw [hg];refine a_ rfl (aX rfl ⟨S1,stay,o1,h1,aaK (a:=(S1,stay,ok)) hg,xV,xu,Al,hSt,AT,hXi,uQ,CG⟩)
  have hgf:d.gone=false:=by simpa using hg
  rw [hgf];cases ok with
  | false=>
   have ev:cv l (S1,stay,false) k=(S1,stay++[k],false):=by
    unfold cv; dsimp only; rw [hd]; dsimp only; rw [if_neg hg,if_pos rfl]
   refine a_ rfl (aT rfl ?_);refine stays W (af.refl _ _) λg w' q3 q5 q6 q7 q9=>?_;have h64:=CE q3 hd l;rw [Al] at h64;refine az Qo h64 λe w6 ⟨he,hw6⟩=>⟨_,he,?_⟩
   subst hw6;exact aX rfl ⟨S1,stay++[k],o1,h1,ev,xV,q3,Al,q5,q6,q7,uQ,q9⟩
  | true=>
   have F1:Wi S1.nv (other d l):=by
    obtain ⟨o1',_⟩:=lH Bg akv;rcases o1' with o1' | o1'<;>rw [o1']
    ·exact QC _ akt
    ·exact QC _ aku
   refine aS rfl (az aeE (by
    have:=U2 xu hd (l:=l) (by have:=hl.2.1; omega) (by have:=F1.2.1; omega) QC (by omega) (λi ids hh=>by have:=QB.wf.len hh; omega) (λ_ _ _ hh=>hh);rw [Al] at this; exact this) λe w6 hMv=>?_)
   rcases hMv with ⟨he,hgo,k6⟩ | ⟨y,he,hgo,hyL,iB,hNx⟩
   ·refine ⟨_,he,aT rfl ?_⟩;refine stays w6 k6 λg w9 q3 q5 q6 q7 q9=>?_;have h64:=CE q3 hd l;rw [Al] at h64;refine az Qo h64 λe cK ⟨he,akx⟩=>⟨_,he,?_⟩
    subst akx;refine aT rfl (q3.uM (q3.val (by have:=F1.2.1; omega) λdB gF=>⟨_,rfl,?_⟩));have r3:=q3.aa gF;have r5:=q5.aa gF;have r7:=q7.aa gF;have r9:=q9.ak gF;have ev:cv l (S1,stay,true) k=if vl S1 (other d l)<0 then ({S1 with bad:=d.at_},stay++[k],false) else if vl S1 (other d l)=0 then (kA S1 (other d l) d.at_,stay++[k],true) else (S1,stay++[k],true):=by
     unfold cv; dsimp only; rw [hd]; dsimp only; rw [if_neg hg,if_neg (by decide),hgo]
    rcases jU S1 (other d l) with h2 | h2 | h2
    ·rw [h2] at ev ⊢;refine aT rfl (r3.uM (r3.val (by have:=F1.2.1; omega) λdF fF=>⟨_,rfl,?_⟩));rw [h2];exact aT rfl ⟨S1,stay++[k],o1,h1,ev,xV,r3.aa fF,Al,r5.aa fF,q6,r7.aa fF,uQ,r9.ak fF⟩
    ·rw [h2] at ev ⊢;refine aX rfl ?_;obtain ⟨JK,_,_,_⟩:=r3.held k d hd;rw [Al] at JK;refine ay (ah (x:=d.at_) (by rw [ag]; exact JK.cell 0) (ay ?_));rw [ag,ag];refine aG r3.self (by simp) rfl λdF qH fF z12=>?_;have hN:=r3.XK (T:=λt=>t=-1) (S:=S1) (hd:=S1.head) (r:=S1.rest) (c:=S1.aQ) (d:=S1.dead) (x:=d.at_) rfl fF qH z12;obtain ⟨o3,h3,g1,g2,g3,g4,g5,g6,g7⟩:=after r9 r5 q6 r7 uQ Al hN (by decide) (by omega);exact ⟨_,stay++[k],o3,h3,ev,xV,g1,g2,g3,g4,g5,g6,g7⟩
    ·rw [h2] at ev ⊢;refine aT rfl (r3.uM (r3.val (by have:=F1.2.1; omega) λdF fF=>⟨_,rfl,?_⟩));rw [h2];refine aX rfl ?_;have h48:=Qx (r3.aa fF) hd HW (l:=other d l) (by have:=F1.2.1; omega) (uO F1 h2);rw [Al] at h48;refine az Qi h48 λe eA ⟨he,hN⟩=>⟨he,?_⟩
     obtain ⟨o3,h3,g1,g2,g3,g4,g5,g6,g7⟩:=after (r9.ak fF) (r5.aa fF) q6 (r7.aa fF) uQ Al hN (by intro hh; rcases hh with hh | hh | hh<;>omega) (by intro hh; rcases hh with hh | hh | hh<;>omega);exact ⟨_,stay++[k],o3,h3,ev,xV,g1,g2,g3,g4,g5,g6,g7⟩
   ·have ev:cv l (S1,stay,true) k=(jT S1 k d l y,stay,true):=by
     unfold cv; dsimp only; rw [hd]; dsimp only; rw [if_neg hg,if_neg (by decide),hgo]
    have hyi:bn y≠bn l:=λe=>iB (jR QB.wf.nv (QC y hyL) QB.Oc e);refine ⟨_,he,aX rfl ?_⟩;obtain ⟨o3,h3,g1,g2,g3,g4,g5,g6,g7⟩:=after CG hSt AT hXi uQ Al hNx (by intro hh; rcases hh with hh | hh | hh<;>omega) (by intro hh; rcases hh with hh | hh | hh<;>omega);exact ⟨_,stay,o3,h3,ev,xV,g1,g2,g3,g4,g5,g6,g7⟩
 ·have bL:i=ids.length:=by have:¬(i:Int)<(x.2.1:Int):=by simpa using bL
                           omega
  subst bL;rw [List.take_length,<-evl] at pn;have ev:visit S l=({S1 with lists:=S1.lists.set (bn l) stay},ok):=by unfold visit; rw [pn]
  rw [ev];have kd:af aq W W.drew:=(af.refl _ _).drew;have dm:=xu.aa kd;have hi1:bn l<2*S1.nv:=by rw [xV]; exact hi
  obtain ⟨y,hy⟩:=bg (show bn l<h1.hh.length by rw [xu.Bv]; exact hi1);have hOy:=dm.we _ y [] hy QB.lp (λh=>h);have K_:=jJ hOy;refine ay (th dm (ay (th dm (dm.EG hy λa ha=>au (x:=y.1) (n:=y.2.1) (c:=y.2.2) ha ?_))));have aoC:y.2.1=0:=by simpa using K_.symm
  refine fI (e:=124) (sz:=1) (z:=.pointer none) (B:=8) Tryz.underlying115 (by kernel_rfl) rfl (by omega) (hSt.aa kd) hOy.news (λu hu=>by simp at hu) (by simp only [maxLen]; omega) (by omega) λp' c' w' pT e_=>?_;rw [List.map_nil,List.append_nil] at pT;have kk:af (ob sp) W.drew w':=by
   rcases e_ with ⟨_,_,_,kk⟩ | ⟨_,kk⟩
   ·exact kk
   ·exact kk.none
  have oD:=dm.Bw kk λj hj hh=>(AT j hh).2;have hpo:∀j,ob p' j->w.heap.size<=j/\o1 j=-9:=λj hj=>by
   rcases e_ with ⟨e,_,_,_⟩ | ⟨e,_⟩
   ·exact AT j (by rw [e] at hj; exact hj)
   ·have h1:=e j hj;have h2:=kd.size;exact ⟨by omega,xu.wj j (by omega)⟩
  refine ⟨th oD rfl,?_⟩;let o3:Nat->Int:=λj=>open Classical in if ob p' j then bn l else o1 j;have uR:Rp (λj=>dU j\/j=bn l) w' b o3 h1 S1:=(oD.tag (o':=o3) (λj hj=>if_neg λhh=>hj (hpo j hh).2) λj hj=>by
   show (open Classical in if ob p' j then ((bn l:Nat):Int) else o1 j)=-9;rw [if_neg λhh=>by have:=pT.lt j hh; omega];exact oD.wj j hj).Qp λj hj=>hj.elim
  have aky:(stay.map λk=>Pt (h1.hb k))=stay.map λk=>Pt (h.hb k):=by rw [Al]
  rw [show ((bn l:Nat):Int)=((bn l:Nat):Int) from rfl];refine HT (g:=(p',sn+y.2.1,c')) (MB:=stay) uR hi1 (by rw [aky]; exact pT) (λj hj=>if_pos hj) λw5 Of k5=>⟨rfl,o3,_,Of,?_,?_,Al⟩
  ·exact λj hj=>(if_neg λhh=>by have:=(hpo j hh).1; omega).trans (uQ j hj)
  ·refine ((CG.ak kd).trans kk λj hj hh=>by have:=(AT j hh).1; omega).trans k5 λj hj hh=>?_;have jP:o3 j=-5:=hh;have e1:o3 j=o1 j:=if_neg λhh=>by have:=(hpo j hh).1; omega
   rw [e1,uQ j hj] at jP;show o j≠ -9;omega
end bp
namespace bp
open Go Vc T
open bt (cQ aL aA bg aO aB Sl sv mE)
open dw (fl bx qG cZ cD idx bJ cO cH)
open mT (Ar AR)
open Trail (TI Tr St fR gj ij bW cR eY cL upto bZ dK Open)
structure Fr (S S':ES):Prop where
 nv:S'.nv=S.nv
 ar:S'.ar=S.ar
 L:S'.L=S.L
 short:S'.short=S.short
 aC:S'.aC=S.aC
 log:S'.log=S.log
 head:S'.head=S.head
 rest:S'.rest=S.rest
 aQ:S'.aQ=S.aQ
 dead:S'.dead=S.dead
 hlen:S'.H.length=S.H.length
 pW:∀(k:Nat) (d':Hd),S'.H[k]?=some d'->∃d,S.H[k]?=some d/\d'.ls=d.ls/\d'.at_=d.at_/\d'.gone=d.gone
 R:∃X,S'.R=S.R++X
theorem Fr.refl (S:ES):Fr S S:=⟨rfl,rfl,rfl,rfl,rfl,rfl,rfl,rfl,rfl,rfl,rfl,λk d h=>⟨d,h,rfl,rfl,rfl⟩,[],by simp⟩
theorem Fr.trans {S S1 S2:ES} (h:Fr S S1) (g:Fr S1 S2):Fr S S2:=by
 refine ⟨g.nv.trans h.nv,g.ar.trans h.ar,g.L.trans h.L,g.short.trans h.short,g.aC.trans h.aC,g.log.trans h.log,g.head.trans h.head,g.rest.trans h.rest,g.aQ.trans h.aQ,g.dead.trans h.dead,g.hlen.trans h.hlen,λk d' e_=>?_,?_⟩
 ·obtain ⟨d1,h1,a,b,c⟩:=g.pW k d' e_;obtain ⟨d,h2,a',b',c'⟩:=h.pW k d1 h1;exact ⟨d,h2,a.trans a',b.trans b',c.trans c'⟩
 ·obtain ⟨X,hX⟩:=h.R;obtain ⟨Y,hY⟩:=g.R;exact ⟨X++Y,by rw [hY,hX,List.append_assoc]⟩
theorem HX (S:ES) (l r:Int):Fr S (kA S l r):={Fr.refl S with R:=⟨[_],rfl⟩}
theorem CJ (S:ES) (x:Int):Fr S {S with bad:=x}:={Fr.refl S with}
theorem EO (S:ES) (x:List (List Nat)):Fr S {S with lists:=x}:={Fr.refl S with}
theorem J3 {S:ES} {k:Nat} {d:Hd} (hd:S.H[k]?=some d) (l x:Int):Fr S (jT S k d l x):=by
 refine {Fr.refl S with hlen:=List.length_set,pW:=λj d' hj=>?_,R:=⟨[],by simp [jT]⟩};have lW:(S.H.set k {d with e0:=other d l,e1:=x})[j]?=some d':=hj;rw [List.getElem?_set] at lW;by_cases f_:k=j
 ·subst f_;rw [if_pos rfl,if_pos (List.getElem?_eq_some_iff.1 hd).1] at lW;injection lW with lW;exact ⟨d,hd,by rw [<-lW],by rw [<-lW],by rw [<-lW]⟩
 ·rw [if_neg f_] at lW; exact ⟨d',lW,rfl,rfl,rfl⟩
theorem wm (S:ES) (d:Hd):Fr S (single S d).1:=by
 unfold single;split
 ·split
  ·exact Fr.refl _
  ·exact HX _ _ _
 ·exact CJ _ _
theorem QE (l:Int) (acc:ES×List Nat×Bool) (k:Nat):Fr acc.1 (cv l acc k).1:=by
 unfold cv;cases hd:acc.1.H[k]? with
 | none=>exact Fr.refl _
 | some d=>
  dsimp only;split
  ·exact Fr.refl _
  ·split
   ·exact Fr.refl _
   ·split
    ·exact J3 hd _ _
    ·split
     ·exact CJ _ _
     ·split
      ·exact HX _ _ _
      ·exact Fr.refl _
theorem CK (l:Int):∀(ids:List Nat) (acc:ES×List Nat×Bool),Fr acc.1 (ids.foldl (cv l) acc).1
 | [],acc=>Fr.refl _
 | k :: ids,acc=>(QE l acc k).trans (CK l ids _)
theorem uS (S:ES) (l:Int):Fr S (visit S l).1:=
 ((EO S (S.lists.set (bn l) [])).trans (CK l (ck S (bn l)) ({S with lists:=S.lists.set (bn l) []},[],true))).trans (EO _ _)
theorem CL {l:Int} : ∀(todo:List Nat) (S:ES) (stay:List Nat) (ok:Bool),VI l S todo stay->VI l (todo.foldl (cv l) (S,stay,ok)).1 [] (todo.foldl (cv l) (S,stay,ok)).2.1
 | [],S,stay,ok,h=>h
 | k :: todo,S,stay,ok,h=>CL todo _ _ (cv l (S,stay,ok) k).2.2 h.step
theorem WfE.visit {S:ES} (h:WfE S) {l:Int} (hl:Wi S.nv l):WfE (visit S l).1:=(CL _ _ _ _ (VI.start h hl)).done
theorem WfE.bad {S:ES} (h:WfE S) (x:Int):WfE {S with bad:=x}:=⟨h.nv,h.hl,h.cl,h.ll,h.nd,h.w1⟩
theorem WfE.self {S:ES} (h:WfE S) (hd:Nat) (r c d:Bool) (x:Int):WfE {S with head:=hd,rest:=r,aQ:=c,dead:=d,bad:=x}:=⟨h.nv,h.hl,h.cl,h.ll,h.nd,h.w1⟩
theorem WfE.single {S:ES} (h:WfE S) (d:Hd):WfE (single S d).1:=by
 unfold bp.single;split
 ·split
  ·exact h
  ·exact h.put _ _
 ·exact h.bad _
structure WfS (S:ES):Prop extends WfE S where
 sh:∀k∈S.short,k<S.H.length
 le:∀k∈S.aC,k<S.H.length
 shl:S.short.length<=8796093022208
 HY:S.aC.length<=8796093022208
theorem WfS.fr {S S':ES} (h:WfS S) (hf:Fr S S') (hw:WfE S'):WfS S':=
 ⟨hw,by rw [hf.short,hf.hlen]; exact h.sh,by rw [hf.aC,hf.hlen]; exact h.le,by rw [hf.short]; exact h.shl,by rw [hf.aC]; exact h.HY⟩
def dz (acc:ES×Bool) (k:Nat):ES×Bool:=
 if acc.2=false then acc else match acc.1.H[k]? with
 | none=>acc
 | some d=>single acc.1 d
def aV (S:ES):ES×Bool:=if S.L.length=0 then S.short.foldl dz (S,true) else (S,true)
def bu:Nat->ES->ES×Bool
 | 0,S=>(S,true)
 | n+1,S=>match S.R[S.head]? with
  | none=>(S,true)
  | some e=>let r:=visit {S with head:=S.head+1} (-e.lit); if r.2=true then bu n r.1 else r
def spread (S:ES):ES×Bool:=
 if (S.dead || S.aQ)=true then (S,false)
 else
  let a:=aV S;let c:=if a.2=true then bu S.nv a.1 else a
  ({c.1 with rest:=c.2,aQ:=!c.2},c.2)
theorem uT (acc:ES×Bool) (k:Nat):Fr acc.1 (dz acc k).1:=by
 unfold dz;split
 ·exact Fr.refl _
 ·split
  ·exact Fr.refl _
  ·exact wm _ _
theorem nM:∀(ids:List Nat) (acc:ES×Bool),Fr acc.1 (ids.foldl dz acc).1
 | [],acc=>Fr.refl _
 | k :: ids,acc=>(uT acc k).trans (nM ids _)
theorem WfE.dz {acc:ES×Bool} (h:WfE acc.1) (k:Nat):WfE (dz acc k).1:=by
 unfold bp.dz;split
 ·exact h
 ·split
  ·exact h
  ·exact h.single _
theorem jC {nv:Nat} {l:Int} (h:Wi nv l):Wi nv (-l):=⟨by have:=h.1; omega,by have:=h.2.2; omega,by have:=h.2.1; omega⟩
theorem gN {nv:Nat} {l:Int} (h:bW nv l=true):Wi nv l:=by
 unfold bW at h;simp only [Bool.and_eq_true,decide_eq_true_eq] at h;exact ⟨by omega,by omega,by omega⟩
theorem U9 {ex:Nat->Prop} {w:World} {b:Nat} {o:Nat->Int} {h:Hs} {S:ES} (hR:Rp ex w b o h S):Calls Tryz.prog 110 #[Pt b] w λe w'=>e=.returned (I S.L.length)/\w'=w:=by
 refine (HE (some ⟨b,0,none⟩) w (λv w'=>v=I S.L.length/\w'=w) ?_).mono λe w' ⟨v,he,hv,hk⟩=>⟨by rw [he,hv],hk⟩
 unfold aeo;exact hR.uM (az ac8 hR.tr.level λe w1 ⟨he,hw⟩=>⟨_,he,rfl,hw⟩)
theorem wo {t:Int} (h:cI t):cA t:=by rcases h with h | h | h<;>(intro e; omega)
theorem U_ {w:World} {b:Nat} {o:Nat->Int} {h:Hs} {S:ES} (hR:Rp dU w b o h S) (hW:WfS S) :
  Calls Tryz.prog 73 #[Pt b] w λe w'=>e=.returned (.bool (spread S).2)/\Nx cA dU w b o h (spread S).1 w':=by
 refine (Mr (some ⟨b,0,none⟩) w (λv w'=>v=.bool (spread S).2/\Nx cA dU w b o h (spread S).1 w') ?_).mono λe w' ⟨v,he,hv,hk⟩=>⟨by rw [he,hv],hk⟩
 unfold V73;refine ay (dX (x:=S.dead) (by rw [ag]; exact hR.self.cell 11) ?_);by_cases EP:(S.dead || S.aQ)=true
 ·have es:spread S=(S,false):=by unfold spread; rw [if_pos EP]
  rw [es];cases hd:S.dead with
  | true=>exact a_ rfl (a_ rfl (aX rfl ⟨rfl,Nx.refl hR⟩))
  | false=>
   have hc:S.aQ=true:=by rw [hd] at EP; simpa using EP
   exact aS rfl (ay (aS rfl (dX (x:=S.aQ) (by rw [ag]; exact hR.self.cell 10) (aX (by rw [hc]; rfl) ⟨rfl,Nx.refl hR⟩))))
 have hd:S.dead=false:=by cases hd:S.dead with
  | true=>rw [hd] at EP; exact absurd rfl EP
  | false=>rfl
 have hc:S.aQ=false:=by cases hc:S.aQ with
  | true=>rw [hd,hc] at EP; exact absurd rfl EP
  | false=>rfl
 rw [hd];refine aS rfl (ay (aS rfl (dX (x:=S.aQ) (by rw [ag]; exact hR.self.cell 10) (aT (by rw [hc]; rfl) ?_))));have es:spread S=({(if (aV S).2=true then bu S.nv (aV S).1 else aV S).1 with rest:=(if (aV S).2=true then bu S.nv (aV S).1 else aV S).2,aQ:=!(if (aV S).2=true then bu S.nv (aV S).1 else aV S).2},(if (aV S).2=true then bu S.nv (aV S).1 else aV S).2):=by
  unfold spread; rw [if_neg EP]
 refine ⟨λs W=>s.1=(aV S).2/\WfS (aV S).1/\Fr S (aV S).1/\Nx cA dU w b o h (aV S).1 W,?_,?_⟩
 ·refine az aep (U9 hR) λe w4 ⟨he,hw⟩=>⟨_,he,?_⟩
  subst hw;refine aF (λhq=>?_) λhq=>?_
  ·have hL:S.L.length=0:=by have:((S.L.length:Nat):Int)=0:=by simpa using hq
                            omega
   have esh:aV S=S.short.foldl dz (S,true):=by unfold aV; rw [if_pos hL]
   rw [esh];have U6:=jJ hR.sh;refine ay (au (x:=h.ss.1) (n:=h.ss.2.1) (c:=h.ss.2.2) (by rw [ag]; exact hR.self.cell 5) ?_);refine bX (λs W=>∃(i:Nat) (S1:ES) (o1:Nat->Int) (h1:Hs),s.2.1=(i:Int)/\i<=S.short.length/\(S.short.take i).foldl dz (S,true)=(S1,s.1)/\WfE S1/\Fr S S1/\Rp dU W b o1 h1 S1/\h1.hb=h.hb/\bR W 124 1 h.ss.1 h.ss.2.1 h.ss.2.2 (S.short.map λk=>Pt (h.hb k))/\Ag w4 o o1/\af (λi=>cI (o i)) w4 W) (λs _=>(S.short.length - s.2.1).toNat)
    ⟨0,S,o,h,rfl,Nat.zero_le _,rfl,hW.toWfE,Fr.refl _,hR,rfl,hR.sh,Ag.refl _ _,(af.refl aq _).none⟩ ?_
   rintro ⟨ok,i',⟨⟩⟩ W ⟨i,S1,o1,h1,rfl,Lq,pn,uN,mz,xu,Al,hSh,uQ,CG⟩;dsimp only at pn ⊢;refine aF (λaM=>?_) λbL=>?_
   ·have aM:i<S.short.length:=by have:(i:Int)<(h.ss.2.1:Int):=by simpa using aM
                                 omega
    have akz:=hW.shl;rw [aA i (by omega)];obtain ⟨k,hk⟩:=bg aM;obtain ⟨d,tg⟩:=bg (show k<S1.H.length by rw [mz.hlen]; exact hW.sh k (List.mem_of_getElem? hk));have aeL:=hSh;refine hSh.ix (by omega) (by omega) λbq CH=>?_;rw [CH] at aeL;refine cN (x:=some ⟨h.hb k,0,none⟩) (by rw [aeL.cell _ (by omega),Int.toNat_natCast,Nat.mul_one,List.getElem?_map,hk]; rfl) ?_;have U7:(S.short.take (i+1)).foldl dz (S,true)=dz (S1,ok) k:=by
     rw [cm hk,List.foldl_append,pn]; rfl
    cases ok with
    | false=>
     have ev:dz (S1,false) k=(S1,false):=by unfold dz; rw [if_pos rfl]
     rw [ev] at U7;exact a_ rfl ⟨⟨i+1,S1,o1,h1,rfl,aM,U7,uN,mz,xu,Al,hSh,uQ,CG⟩,by omega⟩
    | true=>
     have ev:dz (S1,true) k=single S1 d:=by unfold dz; dsimp only; rw [if_neg (by decide),tg]
     rw [ev] at U7;obtain ⟨QC,_,Bg,HW⟩:=uN.hl k d tg;have h34:=QA xu tg HW QC (by omega);rw [Al] at h34;refine aS rfl (az aer h34 λe w6 ⟨he,o2,h2,r2,a2,k2,e2⟩=>⟨_,he,?_⟩);refine ⟨⟨i+1,(single S1 d).1,o2,h2,rfl,aM,by rw [U7]; rfl,uN.single d,mz.trans (wm _ _),r2,e2.trans Al,ct (t:=-6) hSh (λj hj=>by rw [uQ j (hR.sh.lt j hj)]; exact hR.wg j hj) k2 (by intro hh; rcases hh with hh | hh | hh<;>omega),uQ.trans a2 CG.size,JV CG uQ k2⟩,by omega⟩
   ·have bL:i=S.short.length:=by have:¬(i:Int)<(h.ss.2.1:Int):=by simpa using bL
                                 omega
    subst bL;rw [List.take_length] at pn;rw [pn];exact ⟨rfl,hW.fr mz uN,mz,o1,h1,xu,uQ,CG.mono λj _ hh=>wo hh,Al⟩
  ·have hL:¬S.L.length=0:=by have:¬((S.L.length:Nat):Int)=0:=by simpa using hq
                             omega
   have esh:aV S=(S,true):=by unfold aV; rw [if_neg hL]
   rw [esh];exact ⟨rfl,hW,Fr.refl _,Nx.refl hR⟩
 rintro ⟨ok0,⟨⟩⟩ w3 ⟨rfl,hW3,hF3,hN3⟩;dsimp only;have kd:∀W:World,af aq W W.drew:=λW=>(af.refl _ _).drew;refine bX (λs W=>∃(n:Nat) (S1:ES) (o1:Nat->Int) (h1:Hs),(if s.1=true then bu n S1 else (S1,s.1))=(if (aV S).2=true then bu S.nv (aV S).1 else aV S)/\S1.nv<=n+S1.head/\WfE S1/\Rp dU W b o1 h1 S1/\h1.hb=h.hb/\Ag w o o1/\af (λi=>cA (o i)) w W/\S1.nv=S.nv) (λs W=>if s.1=true then (match W.cell? ⟨b,8,none⟩ with | some (.int _ i)=>(S.nv+1 - i).toNat | _=>0) else 0) ?_ ?_
 ·obtain ⟨o1,h1,r1,a1,k1,e1⟩:=hN3;refine ⟨S.nv,(aV S).1,o1,h1,?_,by rw [hF3.nv]; omega,hW3.toWfE,r1,e1,a1,k1,hF3.nv⟩;dsimp only
 rintro ⟨ok,⟨⟩⟩ W ⟨n,S1,o1,h1,F3,hn,uN,xu,Al,uQ,CG,xV⟩;dsimp only at F3 ⊢;have dm:=xu.aa (kd W);have fin:∀(c:ES×Bool),(if (aV S).2=true then bu S.nv (aV S).1 else aV S)=c->c.1=S1->c.2=ok->nn (some ⟨b,0,none⟩) λp65=>Vc.st W.drew ((p65.add 9).add 0) (.bool ok) λdB=>nn (some ⟨b,0,none⟩) λp66=>Vc.st dB ((p66.add 10).add 0) (.bool (!ok)) λdF=>Value.bool ok=.bool (spread S).2/\Nx cA dU w b o h (spread S).1 dF:=by
  intro c Hp S6 TQ;rw [es,Hp,S6,TQ];refine ay ?_;rw [ag,ag];refine aG dm.self (by simp) rfl λdB CM gF z11=>ay ?_;rw [ag,ag];refine aG CM (by simp) rfl λdF qH fF z12=>⟨rfl,?_⟩
  have kk:af (One b) W.drew dF:=gF.trans fF λ_ _ h=>h;have akA:=dm.rK (hd:=S1.head) (r:=ok) (c:=!ok) (d:=S1.dead) (x:=S1.bad) kk qH (by rw [z12,z11]);exact ⟨o1,h1,akA,uQ,(CG.ak (kd W)).trans kk λj hj hh=>by
   have zj:j=b:=hh;have:=uQ j hj;rw [zj,xu.cC] at this;show o j≠ -9;rw [zj,<-this]; decide,Al⟩
 cases ok with
 | false=>
  rw [if_neg (by decide)] at F3;exact a_ rfl (a_ rfl (a_ rfl (a_ rfl (aT rfl (fin _ F3.symm rfl rfl)))))
 | true=>
  rw [if_pos rfl] at F3;have hoo:=aO xu.oo;rw [List.length_map] at hoo;have aoh:=xu.tr.small.2.1;have c8:∀{V:World} {o1:Nat->Int} {h1:Hs} {S1:ES},Rp dU V b o1 h1 S1->∀{K:Int->Prop},K S1.head->aW .i64 V ((⟨b,0,none⟩:Addr).add 8) K:=λ{V o1 h1 S1} MD {K} hK=>by
   rw [ag]; exact ah (MD.self.cell 8) hK
  have c3:∀{V:World} {o1:Nat->Int} {h1:Hs} {S1:ES},Rp dU V b o1 h1 S1->∀{K:Option Addr->Nat->Nat->Prop},K h1.oo.1 h1.oo.2.1 h1.oo.2.2->aZ V ((⟨b,0,none⟩:Addr).add 3) K:=λ{V o1 h1 S1} MD {K} hK=>by
   rw [ag]; exact au (x:=h1.oo.1) (n:=h1.oo.2.1) (c:=h1.oo.2.2) (MD.self.cell 3) hK
  refine aS rfl (ay (aS rfl (c8 dm (aS rfl (ay (aS rfl (c3 dm ?_)))))));dsimp only;by_cases aM:S1.head<S1.R.length
  ·have aeM:∃n',n=n'+1:=⟨n - 1,by omega⟩
   obtain ⟨n',rfl⟩:=aeM;obtain ⟨e,he⟩:=bg aM;have AU:=dm.aa (kd W.drew)
   refine aX (by have:(S1.head:Int)<(h1.oo.2.1:Int):=by omega
                 rw [decide_eq_true this]; rfl) (ay (c3 AU (ay (c8 AU ?_))))
   have hO:=AU.oo;refine AU.oo.ix (by omega) (by omega) λbq CH=>?_;rw [CH] at hO;refine ah (x:=e.lit) (by rw [hO.cell _ (by omega),Int.toNat_natCast,Nat.mul_one,List.getElem?_map,List.getElem?_map,he]; rfl) (ay (c8 AU (ay ?_)));have hbd:=xu.nv;rw [ag,ag,aA S1.head (by omega)];refine aG AU.self (by simp) rfl λw9 JK k9 z9=>?_;have hR9:=AU.rK (hd:=S1.head+1) (r:=S1.rest) (c:=S1.aQ) (d:=S1.dead) (x:=S1.bad) k9 JK z9;have sH:Wi S1.nv e.lit:=gN (xu.tr.st.own e (List.mem_of_getElem? he));have akB:IntKind.wrap .i64 (0 - e.lit)=-e.lit:=by
    have h1:=sH.2.1; have h2:=sH.2.2;rw [show (0 - e.lit:Int)=-e.lit by omega];rw [IntKind.wrap_i64]; omega
   rw [akB];have hw9:=uN.self (S1.head+1) S1.rest S1.aQ S1.dead S1.bad;refine az aet (U5 hR9 hw9 (jC sH)) λee cK ⟨uU,o2,h2,r2,a2,k2,e2⟩=>⟨_,uU,?_⟩
   have hfv:=uS {S1 with head:=S1.head+1} (-e.lit);have esn:bu (n'+1) S1=if (visit {S1 with head:=S1.head+1} (-e.lit)).2=true then bu n' (visit {S1 with head:=S1.head+1} (-e.lit)).1 else visit {S1 with head:=S1.head+1} (-e.lit):=by
    show (match S1.R[S1.head]? with
     | none=>(S1,true)
     | some e=>let r:=visit {S1 with head:=S1.head+1} (-e.lit); if r.2=true then bu n' r.1 else r)=_
    rw [he]
   have z9':w9.heap.size=W.heap.size:=z9;have JL:(visit {S1 with head:=S1.head+1} (-e.lit)).1.head=S1.head+1:=hfv.head;have U':(visit {S1 with head:=S1.head+1} (-e.lit)).1.nv=S1.nv:=hfv.nv;refine ⟨⟨n',_,o2,h2,?_,by rw [JL,U']; omega,hw9.visit (jC sH),r2,e2.trans Al,uQ.trans a2 (by have:=CG.size; omega),?_,U'.trans xV⟩,?_⟩
   ·rw [<-F3,esn]
   ·refine (((CG.ak (kd W)).ak (kd W.drew)).trans k9 λj hj hh=>?_).trans k2 λj hj hh=>?_
    ·have zj:j=b:=hh;have:=uQ j hj;rw [zj,xu.cC] at this;show o j≠ -9;rw [zj,<-this]; decide
    ·rw [<-uQ j hj]; exact hh
   ·have c1:W.cell? ⟨b,8,none⟩=some (I S1.head):=xu.self.cell 8;have c2:cK.cell? ⟨b,8,none⟩=some (I (S1.head+1:Nat)):=by
     have:=r2.self.cell 8;rw [JL] at this;exact this
    rw [c1,c2];by_cases h2:(visit {S1 with head:=S1.head+1} (-e.lit)).2=true
    ·rw [if_pos h2,if_pos rfl]; dsimp only; omega
    ·rw [if_neg h2,if_pos rfl]; dsimp only; omega
  ·have Va:(if (aV S).2=true then bu S.nv (aV S).1 else aV S)=(S1,true):=by
    rw [<-F3];cases n with
    | zero=>rfl
    | succ n'=>
     show (match S1.R[S1.head]? with
      | none=>(S1,true)
      | some e=>let r:=visit {S1 with head:=S1.head+1} (-e.lit); if r.2=true then bu n' r.1 else r)=_
     rw [List.getElem?_eq_none (by omega)]
   exact aT (by have:¬(S1.head:Int)<(h1.oo.2.1:Int):=by omega
                rw [decide_eq_false this]; rfl) (fin _ Va rfl rfl)
end bp
namespace bp
open Go Vc T
open bt (cQ aL aA bg aO aB Sl sv mE)
open dw (fl bx qG cZ cD idx bJ cO cH)
open mT (Ar AR)
open Trail (TI Tr St fR gj ij bW cR eY cL upto bZ dK Open jO)
theorem Rp.laid {ex:Nat->Prop} {w w4:World} {b:Nat} {o:Nat->Int} {h:Hs} {S:ES} (hR:Rp ex w b o h S) {T':TI} {p':Option Addr} {n' c':Nat} {R':List E} {L':List Int} {hd:Nat} {r c d:Bool} {x:Int}
  (bI:af (λj=>cI (o j)) w w4) (HU:b_ w4 b [I S.nv,Pt h.st,Pt T'.t,sv (p',n',c'),sv h.ll,sv h.ss,sv h.le,.iface 112 (Pt h.bk),I hd,.bool r,.bool c,.bool d,I x] 120)
  (S0:Tr S.nv w4 T' R' L') (hF:∀j,T'.F j->(j<w.heap.size/\o j=-3)\/w.heap.size<=j) (uA:bR w4 3 1 p' n' c' ((R'.map λe:E=>e.lit).map I)) (xo:∀j,ob p' j->(j<w.heap.size/\o j=-4)\/w.heap.size<=j) (akC:∀j,T'.F j->¬ob p' j) :
  Nx cI ex w b o h {S with R:=R',L:=L',head:=hd,rest:=r,aQ:=c,dead:=d,bad:=x} w4:=by
 have lo:∀{j:Nat},o j≠ -9->j<w.heap.size:=λ{j} hj=>by
  apply Classical.byContradiction;intro hn;exact hj (hR.wj j (by omega))
 have nT:∀{t:Int},t≠ -1->t≠ -3->t≠ -4->¬cI t:=λa b c hh=>by rcases hh with h | h | h; exact a h; exact b h; exact c h
 have z:=bI.size;let o':Nat->Int:=λj=>open Classical in if j<w.heap.size then o j else if T'.F j then -3 else if ob p' j then -4 else -9;have e0:∀{j:Nat} {t:Int},t≠ -9->o j=t->o' j=t:=λ{j} {t} bz hj=>by
  show (open Classical in if j<w.heap.size then o j else _)=t;rw [if_pos (lo (by rw [hj]; exact bz))]; exact hj
 have Eh:=hR.Te (T:=cI) bI (nT (by decide) (by decide) (by decide));have lX:=hR.Tf (T:=cI) bI (nT (by decide) (by decide) (by decide));have xq:=hR.s_ (T:=cI) bI (nT (by decide) (by decide) (by decide)) (nT (by decide) (by decide) (by decide));refine ⟨o',{h with T:=T',oo:=(p',n',c')},⟨HU,e0 (by decide) hR.cC,jI Eh (λi hi=>⟨e0 (by decide) hi.1,hi.2⟩) (λi hi=>hi.2),S0,λj hj=>?_,uA,λj hj=>?_,
  ct (T:=cI) hR.out hR.jQ bI (nT (by decide) (by decide) (by decide)),λj hj=>e0 (by decide) (hR.jQ j hj),hR.Bv,hR.CB,
  hR.zg (T:=cI) bI (λi hi=>⟨hi,nT (by omega) (by omega) (by omega)⟩),λi x hx j hj=>⟨e0 (by omega) (hR.jS (T:=cI) bI i x hx j hj).1,(hR.jS (T:=cI) bI i x hx j hj).2⟩,
  ct (T:=cI) hR.sh hR.wg bI (nT (by decide) (by decide) (by decide)),λj hj=>e0 (by decide) (hR.wg j hj),ct (T:=cI) hR.le hR.wh bI (nT (by decide) (by decide) (by decide)),λj hj=>e0 (by decide) (hR.wh j hj),
  fZ (T:=cI) hR.bk hR.uK bI (nT (by decide) (by decide) (by decide)),e0 (by decide) hR.uK,ct (T:=cI) hR.lg hR.xm bI (nT (by decide) (by decide) (by decide)),λj hj=>e0 (by decide) (hR.xm j hj),hR.AP,
  λi x y hx hy=>⟨(lX i x y hx hy).1,λj hj=>⟨e0 (by decide) ((lX i x y hx hy).2 j hj).1,((lX i x y hx hy).2 j hj).2⟩⟩,
  λi d' e_=>by
   obtain ⟨h1,h2,h3,h4⟩:=xq i d' e_;exact ⟨h1,e0 (by decide) h2,h3,λj hj=>⟨e0 (by decide) (h4 j hj).1,(h4 j hj).2⟩⟩,hR.inj,λj hj=>?_⟩,λj hj=>if_pos hj,bI,rfl⟩
 ·show (open Classical in if j<w.heap.size then o j else if T'.F j then -3 else if ob p' j then -4 else -9)=-3;rcases hF j hj with h1 | h1
  ·rw [if_pos h1.1]; exact h1.2
  ·rw [if_neg (by omega),if_pos hj]
 ·show (open Classical in if j<w.heap.size then o j else if T'.F j then -3 else if ob p' j then -4 else -9)=-4;rcases xo j hj with h1 | h1
  ·rw [if_pos h1.1]; exact h1.2
  ·rw [if_neg (by omega),if_neg λhh=>akC j hh hj,if_pos hj]
 ·show (open Classical in if j<w.heap.size then o j else if T'.F j then -3 else if ob p' j then -4 else -9)=-9;rw [if_neg (by omega),if_neg λhh=>by have:=S0.lt j hh; omega,if_neg λhh=>by have:=uA.lt j hh; omega]
def iH (S:ES) (l:Int):Int:=if ¬(fl l=true/\(l.natAbs:Int)<=S.nv) then 1 else if S.rest=false then 3 else if vl S l≠0 then 50 else 0
def dG (S:ES) (l:Int):ES:=if iH S l=0 then {S with R:=S.R++[⟨l,(S.L.length+1:Nat), -1⟩],L:=S.L++[(S.R.length:Int)],rest:=false} else S
theorem XM {nv:Nat} {l:Int} (h:fl l=true) (hn:(l.natAbs:Int)<=nv):Wi nv l:=by
 have:=bx.1 h;exact ⟨this.1,by omega,by omega⟩
theorem Vb {ex:Nat->Prop} {w:World} {b:Nat} {o:Nat->Int} {h:Hs} {S:ES} (hR:Rp ex w b o h S) (l:Int) (hl : -9223372036854775808<=l) :
  Calls Tryz.prog 118 #[Pt b,I l] w λe w'=>e=.returned (I (iH S l))/\Nx cI ex w b o h (dG S l) w':=by
 refine (HA (some ⟨b,0,none⟩) l w (λv w'=>v=I (iH S l)/\Nx cI ex w b o h (dG S l) w') ?_).mono λe w' ⟨v,he,hv,hk⟩=>⟨by rw [he,hv],hk⟩
 unfold aee;have kd:af aq w w.drew:=(af.refl _ _).drew;have dS:=hR.nv;have stop:∀{W:World} {x:Int},af aq w W->iH S l=x->x≠0->(I x=I (iH S l)/\Nx cI ex w b o h (dG S l) W):=λ{W x} k e hx=>by
  refine ⟨by rw [e],?_⟩;unfold dG; rw [if_neg (by rw [e]; exact hx)];exact (Nx.refl hR).aa k
 refine az Ea (cD l) λe w1 ⟨he,k1⟩=>⟨_,he,?_⟩
 have Cn:=kd.ak k1;have rL:=hR.aa Cn;cases hf:fl l with
 | false=>
  exact a_ rfl (a_ rfl (a_ rfl ⟨λhh=>(by cases hh),aX rfl (stop Cn (by unfold iH; rw [if_pos (by rw [hf]; intro hh; cases hh.1)]) (by decide))⟩))
 | true=>
  have kI:=bx.1 hf;have c0:∀{K:Int->Prop},K S.nv->aW .i64 w1 ((⟨b,0,none⟩:Addr).add 0) K:=λhK=>by rw [ag]; exact ah (rL.self.cell 0) hK
  refine aS rfl (ay (aS rfl (c0 (aS rfl ?_))));refine az D_ (Trail.w_ l w1 hl) λe w2 ⟨he,hw⟩=>⟨_,he,⟨λ_=>?_,?_⟩⟩
  ·subst hw; exact c0 rfl
  subst hw;have ev:(if 1<=l.natAbs/\l.natAbs<=1048576 then (l.natAbs:Int) else 0)=l.natAbs:=if_pos ⟨by omega,by omega⟩;rw [ev];refine aF (λhq=>?_) λhq=>?_
  ·have hq:(S.nv:Int)<l.natAbs:=by simpa using hq
   exact stop Cn (by unfold iH; rw [if_pos (by intro hh; omega)]) (by decide)
  have hq:(l.natAbs:Int)<=S.nv:=by have:¬(S.nv:Int)<l.natAbs:=by simpa using hq
                                   omega
  have sH:=XM hf hq;have d1:iH S l=if S.rest=false then 3 else if vl S l≠0 then 50 else 0:=by unfold iH; rw [if_neg (by intro hh; exact hh ⟨hf,hq⟩)]
  refine ay (dX (x:=S.rest) (by rw [ag]; exact rL.self.cell 9) ?_);cases hr:S.rest with
  | false=>exact aX rfl (stop Cn (by rw [d1,if_pos hr]) (by decide))
  | true=>
   rw [if_neg (by rw [hr]; decide)] at d1;refine aT rfl (rL.uM (rL.val hl λw4 k4=>⟨_,rfl,?_⟩));have lq:=Cn.ak k4;by_cases hv:vl S l≠0
   ·exact aX (by simpa using hv) (stop lq (by rw [d1,if_pos hv]) (by decide))
   have XN:vl S l=0:=by omega
   rw [if_neg hv] at d1;have es:dG S l={S with R:=S.R++[⟨l,(S.L.length+1:Nat), -1⟩],L:=S.L++[(S.R.length:Int)],rest:=false}:=by unfold dG; rw [if_pos d1]
   rw [XN];have uR:=hR.aa lq;refine aT rfl (uR.uM (az ac4 (uR.tr.decide l hl) λe w5 ⟨he,k5,T',hmv,hT5⟩=>⟨_,he,?_⟩));have J4:bZ S.nv S.R l=0:=uO sH XN;rw [if_pos J4,if_pos J4] at hT5;have z14:=lq.size;have z5:=k5.size;have kt5:af (λj=>(λt:Int=>t=-3) (o j)) w4 w5:=k5.mono λj _ hj=>hR.Ak j hj;have QF:=fZ (T:=λt=>t=-3) uR.self hR.cC kt5 (by decide);have akD:=ct (T:=λt=>t=-3) uR.oo hR.sZ kt5 (by decide);have AS:=aO hR.oo;have XI:=hR.tr.small;rw [List.length_map] at AS;refine ay (au (x:=h.oo.1) (n:=h.oo.2.1) (c:=h.oo.2.2) (by rw [ag]; exact QF.cell 3) ?_);refine aD λb10 w6 ako Pw k6=>?_;have z6:=k6.size;refine fI (e:=3) (sz:=1) (z:=I 0) (B:=8) Tryz.underlying59 (by kernel_rfl) rfl (by omega) (akD.aa k6) Pw.kU (λu hu=>?_) (by simp only [maxLen]; omega) (by omega) λp' c' w7 Vd hd7=>?_
   ·simp only [List.mem_singleton] at hu; subst hu; rfl
   have kt7:af (λj=>(λt:Int=>t=-4) (o j)) w6 w7:=by
    rcases hd7 with ⟨_,_,_,kk⟩ | ⟨_,kk⟩
    ·exact kk.mono λj _ hj=>hR.sZ j hj
    ·exact kk.none
   have z7:=kt7.size;have aaL:=fZ (T:=λt=>t=-4) (QF.aa k6) hR.cC kt7 (by decide);have uk:b<w.heap.size:=hR.self.lt;refine ay ?_;rw [ag,ag];refine aG aaL (by simp) rfl λw8 aaM k8 z8=>ay ?_;rw [ag,ag];refine aG aaM (by simp) rfl λw9 aaN k9 z9=>⟨by rw [d1],?_⟩
   rw [es];have XH:af (One b) w7 w9:=k8.trans k9 λ_ _ h=>h;have xo:∀j,ob p' j->(j<w.heap.size/\o j=-4)\/w6.heap.size<=j:=λj hj=>by
    rcases hd7 with ⟨e,_,_,_⟩ | ⟨e,_⟩
    ·rw [e] at hj; exact Or.inl ⟨hR.oo.lt j hj,hR.sZ j hj⟩
    ·exact Or.inr (e j hj)
   have hF:∀j,T'.F j->(j<w.heap.size/\o j=-3)\/(w.heap.size<=j/\j<w5.heap.size):=λj hj=>by
    rcases hmv.2 j hj with h1 | h1
    ·exact Or.inl ⟨hR.tr.lt j h1,hR.Ak j h1⟩
    ·exact Or.inr ⟨by omega,hT5.lt j hj⟩
   refine hR.laid (T':=T') (p':=p') (n':=h.oo.2.1+1) (c':=c') (hd:=S.head) (r:=false) (c:=S.aQ) (d:=S.dead) (x:=S.bad) (((((lq.none (S:=λj=>cI (o j))).trans kt5 λj _ hh=>Or.inr (Or.inl hh)).ak k6).trans kt7 λj _ hh=>Or.inr (Or.inr hh)).trans XH λj _ hh=>?_) (by rw [hmv.1]; exact aaN) (((hT5.aa k6).ax kt7 λj hj hh=>?_).ax XH λj hj hh=>?_) (λj hj=>?_) ?_ (λj hj=>?_) λj hj hh=>?_
   ·have hj:j=b:=hh;show cI (o j);rw [hj,hR.cC]; exact Or.inl rfl
   ·have jP:o j=-4:=hh;rcases hF j hj with h1 | h1
    ·rw [h1.2] at jP; exact absurd jP (by decide)
    ·rw [hR.wj j h1.1] at jP; exact absurd jP (by decide)
   ·have zj:j=b:=hh;rcases hF j hj with h1 | h1
    ·rw [zj,hR.cC] at h1; exact absurd h1.2 (by decide)
    ·omega
   ·rcases hF j hj with h1 | h1
    ·exact Or.inl h1
    ·exact Or.inr h1.1
   ·have e1:((S.R++[(⟨l,(S.L.length+1:Nat), -1⟩:E)]).map λe:E=>e.lit).map I=(S.R.map λe=>e.lit).map I++[I l]:=by simp
    rw [e1];refine Vd.ax XH λj hj hh=>?_;have zj:j=b:=hh;rcases xo j hj with h1 | h1
    ·rw [zj,hR.cC] at h1; exact absurd h1.2 (by decide)
    ·omega
   ·rcases xo j hj with h1 | h1
    ·exact Or.inl h1
    ·exact Or.inr (by omega)
   ·rcases hF j hj with h1 | h1<;>rcases xo j hh with h2 | h2
    ·omega
    ·omega
    ·omega
    ·omega
def fE (S:ES) (k:Int):ES:={S with R:=upto k S.R,L:=S.L.take k.toNat,head:=min S.head (upto k S.R).length}
theorem jD {n:Nat} {R:List E} {L:List Int} (h:St n R L) {k:Int} (qD:0<=k) (hk:k<=L.length):upto k R=R.take (R.length - (cL k R).length)/\(cL k R).length<=R.length:=by
 obtain ⟨m,rfl⟩:∃m:Nat,k=m:=⟨k.toNat,by omega⟩
 by_cases hm:m<L.length
 ·obtain ⟨fr,e1,e2,s1,s2,s3⟩:=h.back m _ (List.getElem?_eq_getElem hm);obtain ⟨a1,a2⟩:=Trail.ow s2 s3;rw [a1,a2,List.length_drop];exact ⟨by congr 1; omega,by omega⟩
 ·obtain rfl:m=L.length:=by omega
  obtain ⟨a1,a2⟩:=Trail.rH h (Int.le_refl _);rw [a1,a2];exact ⟨by simp,by simp⟩
theorem XO {ex:Nat->Prop} {w:World} {b:Nat} {o:Nat->Int} {h:Hs} {S:ES} (hR:Rp ex w b o h S) {k:Int} (qD:0<=k) (hk:k<=S.L.length) :
  Calls Tryz.prog 145 #[Pt b,I k] w λe w'=>e=.returned (.tuple #[])/\Nx cI ex w b o h (fE S k) w':=by
 refine (HN (some ⟨b,0,none⟩) k w (λv w'=>v=.tuple #[]/\Nx cI ex w b o h (fE S k) w') ?_).mono λe w' ⟨v,he,hv,hk⟩=>⟨by rw [he,hv],hk⟩
 unfold aeB;obtain ⟨u1,u2⟩:=jD hR.tr.st qD hk;have XI:=hR.tr.small;have AS:=aO hR.oo;rw [List.length_map] at AS;refine hR.uM (az adh (hR.tr.back qD hk) λe w1 ⟨p,c,he,hO,hf,k1,fQ⟩=>⟨_,_,_,_,he,?_⟩);have kt1:af (λj=>(λt:Int=>t=-3) (o j)) w w1:=k1.mono λj _ hj=>hR.Ak j hj;have Gg:=kt1.drew;have zi:=fZ (T:=λt=>t=-3) hR.self hR.cC Gg (by decide);have aaH:=ct (T:=λt=>t=-3) hR.oo hR.sZ Gg (by decide);have c3:∀{K:Option Addr->Nat->Nat->Prop},K h.oo.1 h.oo.2.1 h.oo.2.2->aZ w1.drew ((⟨b,0,none⟩:Addr).add 3) K:=λhK=>by
  rw [ag]; exact au (x:=h.oo.1) (n:=h.oo.2.1) (c:=h.oo.2.2) (zi.cell 3) hK
 have ew:IntKind.wrap .i64 ((h.oo.2.1:Int) - ((cL k S.R).length:Int))=((S.R.length - (cL k S.R).length:Nat):Int):=by
  rw [<-AS,IntKind.wrap_i64]; omega
 have CN:=hR.oo.le;refine ay (c3 (ay (c3 ?_)));rw [ew];refine ⟨by omega,by omega,ay ?_⟩;rw [ag,ag,dw.nC,Int.toNat_natCast,Nat.sub_zero,Nat.sub_zero];refine aG zi (by simp) rfl λw2 bH k2 z2=>ay ?_;have k2d:=k2.drew;have AV:b_ w2.drew b _ 120:=bH.aa (af.refl aq w2).drew;refine ah (x:=S.head) (by rw [ag]; exact AV.cell 8) (ay ?_);refine au (x:=h.oo.1) (n:=S.R.length - (cL k S.R).length) (c:=h.oo.2.2) (by rw [ag]; exact AV.cell 3) (ay ?_);rw [ag,ag];refine aG AV (by simp) rfl λw3 bP k3 z3=>⟨rfl,?_⟩
 have QG:(upto k S.R).length=S.R.length - (cL k S.R).length:=by rw [u1,List.length_take]; omega
 have akE:(if ((S.R.length - (cL k S.R).length:Nat):Int)<S.head then ((S.R.length - (cL k S.R).length:Nat):Int) else S.head)=((min S.head (upto k S.R).length:Nat):Int):=by
  rw [QG]; split<;>omega
 rw [akE] at bP;have uI:af (One b) w1.drew w3:=k2d.trans k3 λ_ _ h=>h;have z1:=Gg.size;refine hR.laid (T':=h.T) (p':=h.oo.1) (n':=S.R.length - (cL k S.R).length) (c':=h.oo.2.2) (hd:=min S.head (upto k S.R).length) (r:=S.rest) (c:=S.aQ) (d:=S.dead) (x:=S.bad) ((show af (λj=>cI (o j)) w w1.drew from Gg.mono λj _ hh=>Or.inr (Or.inl hh)).trans uI λj _ hh=>?_) bP ((fQ.aa (af.refl aq w1).drew).ax uI λj hj hh=>?_) (λj hj=>Or.inl ⟨hR.tr.lt j hj,hR.Ak j hj⟩) ?_ (λj hj=>Or.inl ⟨hR.oo.lt j hj,hR.sZ j hj⟩) λj hj hh=>?_
 ·have hj:j=b:=hh;show cI (o j);rw [hj,hR.cC]; exact Or.inl rfl
 ·have zj:j=b:=hh;have:=hR.Ak j hj;rw [zj,hR.cC] at this; exact absurd this (by decide)
 ·have:=aaH.cut (m:=S.R.length - (cL k S.R).length) (by omega);rw [Nat.mul_one,<-List.map_take,<-List.map_take,<-u1] at this;refine this.ax uI λj hj hh=>?_;have zj:j=b:=hh;have:=hR.sZ j hj;rw [zj,hR.cC] at this; exact absurd this (by decide)
 ·have h1:=hR.Ak j hj;have h2:=hR.sZ j hh;omega
def kj (S:ES) (l:Int) (k:Nat):ES:={S with lists:=S.lists.set (bn l) (ck S (bn l)++[k])}
def gC (S:ES) (k:Nat) (d:Hd) (a c:Int):ES:=kj (kj {S with H:=S.H.set k {d with e0:=a,e1:=c}} a k) c k
def sI (t:Int):Prop:=t=-5\/t=-12\/0<=t
theorem J5 {ex:Nat->Prop} {w:World} {b:Nat} {o:Nat->Int} {h:Hs} {S:ES} (hR:Rp ex w b o h S) {k:Nat} {d:Hd} (hd:S.H[k]?=some d) {a c:Int} (ha:Wi S.nv a) (hc:Wi S.nv c) (pW:∀(i:Nat) (ids:List Nat),S.lists[i]?=some ids->ids.length<=17592186044414) (hea:¬ex (bn a)) (hec:¬ex (bn c)) :
  Calls Tryz.prog 66 #[Pt b,Pt (h.hb k),I a,I c] w λe w'=>e=.returned (.tuple #[])/\Nx sI ex w b o h (gC S k d a c) w':=by
 refine (My (some ⟨b,0,none⟩) (some ⟨h.hb k,0,none⟩) a c w (λv w'=>v=.tuple #[]/\Nx sI ex w b o h (gC S k d a c) w') ?_).mono λe w' ⟨v,he,hv,hk⟩=>⟨by rw [he,hv],hk⟩
 unfold V66;have dS:=hR.nv;refine JZ hR hd λw2 iM k2 z2=>?_;have pX:=(List.getElem?_eq_some_iff.1 hd).1;have Ti:(S.H.set k {d with e0:=a,e1:=c})[k]?=some {d with e0:=a,e1:=c}:=List.getElem?_set_self pX;obtain ⟨bH,_⟩:=iM.held k _ Ti;refine ay (ah (x:=a) (by rw [ag,ag]; exact bH.cell 2) (ah (x:=c) (by rw [ag,ag]; exact bH.cell 3) ?_));have kd:∀W:World,af aq W W.drew:=λW=>(af.refl _ _).drew;have th:∀{V:World} {o1:Nat->Int} {h1:Hs} {S1:ES} {ex1:Nat->Prop},Rp ex1 V b o1 h1 S1->∀{K:Option Addr->Nat->Nat->Prop},K h1.ll.1 h1.ll.2.1 h1.ll.2.2->aZ V ((⟨b,0,none⟩:Addr).add 4) K:=λ{V o1 h1 S1 ex1} MD {K} hK=>by
  rw [ag];exact au (x:=h1.ll.1) (n:=h1.ll.2.1) (c:=h1.ll.2.2) (MD.self.cell 4) hK
 have uP:af (λj=>sI (o j)) w w2:=k2.mono λj _ hh=>Or.inr (Or.inl hh);have N0:Nx sI ex w b o h {S with H:=S.H.set k {d with e0:=a,e1:=c}} w2:=⟨o,h,iM,Ag.refl _ _,uP,rfl⟩
 have tp:∀i t,JX i t->sI t:=λi t hh=>by rcases hh with hh | hh; exact Or.inl hh; exact Or.inr (Or.inr (by omega))
 refine bX (λs W=>(s.1=0/\Nx sI ex w b o h {S with H:=S.H.set k {d with e0:=a,e1:=c}} W)\/(s.1=1/\Nx sI ex w b o h (kj {S with H:=S.H.set k {d with e0:=a,e1:=c}} a k) W)\/(s.1=2/\Nx sI ex w b o h (gC S k d a c) W)) (λs _=>(2 - s.1).toNat) (Or.inl ⟨rfl,N0⟩) ?_;rintro ⟨i,⟨⟩⟩ W hI;dsimp only at hI ⊢;rcases hI with ⟨rfl,o1,h1,r1,a1,k1,e1⟩ | ⟨rfl,o1,h1,r1,a1,k1,e1⟩ | ⟨rfl,hN⟩
 ·refine aX rfl ⟨by omega,by omega,a,rfl,?_⟩;have rd:=r1.aa (kd W);refine ay (th rd (ay (th rd ?_)));obtain ⟨ids,jl⟩:=bg (show bn a<S.lists.length by rw [hR.CB]; exact fu ha);have xU:ck S (bn a)=ids:=by unfold ck; rw [jl]; rfl
  have hP:=Qw rd (by exact dS) (l:=a) (by exact ha) (k:=k) (by exact jl) hea (by have:=pW _ _ jl; omega) (K:=λw'=>((((1:Int)=0/\Nx sI ex w b o h {S with H:=S.H.set k {d with e0:=a,e1:=c}} w')\/((1:Int)=1/\Nx sI ex w b o h (kj {S with H:=S.H.set k {d with e0:=a,e1:=c}} a k) w')\/((1:Int)=2/\Nx sI ex w b o h (gC S k d a c) w'))/\(2 - (1:Int)).toNat<(2 - (0:Int)).toNat)) λw' hN=>⟨Or.inr (Or.inl ⟨rfl,?_⟩),by decide⟩
  ·rw [e1] at hP;exact hP
  ·obtain ⟨o2,h2,r2,a2,k3,e2⟩:=hN.before (kd W);refine ⟨o2,h2,?_,a1.trans a2 k1.size,k1.trans k3 λj hj hh=>by rw [<-a1 j hj]; exact tp _ _ hh,e2.trans e1⟩;unfold kj ck;rw [show ({S with H:=S.H.set k {d with e0:=a,e1:=c}} : ES).lists[bn a]?.getD []=ids from xU];exact r2
 ·refine aX rfl ⟨by omega,by omega,c,rfl,?_⟩;have rd:=r1.aa (kd W);refine ay (th rd (ay (th rd ?_)));obtain ⟨ids,jl⟩:=bg (show bn c<(kj {S with H:=S.H.set k {d with e0:=a,e1:=c}} a k).lists.length by unfold kj; rw [List.length_set,hR.CB]; exact fu hc);have xU:ck (kj {S with H:=S.H.set k {d with e0:=a,e1:=c}} a k) (bn c)=ids:=by unfold ck; rw [jl]; rfl
  have hlen:ids.length<=17592186044415:=by
   have hq:(S.lists.set (bn a) (ck S (bn a)++[k]))[bn c]?=some ids:=jl;rw [List.getElem?_set] at hq;split at hq
   ·split at hq
    ·injection hq with hq;rw [<-hq,List.length_append];obtain ⟨MB,XP⟩:=bg (show bn a<S.lists.length by rw [hR.CB]; exact fu ha);have:ck S (bn a)=MB:=by unfold ck; rw [XP]; rfl
     rw [this];have:=pW _ _ XP;simp only [List.length_singleton]; omega
    ·cases hq
   ·have:=pW _ _ hq; omega
  have hP:=Qw rd (by exact dS) (l:=c) (by exact hc) (k:=k) jl hec hlen (K:=λw'=>((((2:Int)=0/\Nx sI ex w b o h {S with H:=S.H.set k {d with e0:=a,e1:=c}} w')\/((2:Int)=1/\Nx sI ex w b o h (kj {S with H:=S.H.set k {d with e0:=a,e1:=c}} a k) w')\/((2:Int)=2/\Nx sI ex w b o h (gC S k d a c) w'))/\(2 - (2:Int)).toNat<(2 - (1:Int)).toNat)) λw' hN=>⟨Or.inr (Or.inr ⟨rfl,?_⟩),by decide⟩
  ·rw [e1] at hP;exact hP
  ·obtain ⟨o2,h2,r2,a2,k3,e2⟩:=hN.before (kd W);refine ⟨o2,h2,?_,a1.trans a2 k1.size,k1.trans k3 λj hj hh=>by rw [<-a1 j hj]; exact tp _ _ hh,e2.trans e1⟩;unfold gC;rw [show kj (kj {S with H:=S.H.set k {d with e0:=a,e1:=c}} a k) c k={kj {S with H:=S.H.set k {d with e0:=a,e1:=c}} a k with lists:=(kj {S with H:=S.H.set k {d with e0:=a,e1:=c}} a k).lists.set (bn c) (ids++[k])} by unfold kj at xU ⊢; rw [xU]];exact r2
 ·exact aT rfl ⟨rfl,hN⟩
end bp
namespace T
open Go Vc
def aeN (a0:qA) (a1:Int) (a2:Value) (w:World) (R:qR):Prop:=
 cg w [qI 0,qI 0,.slice none 0 0] 175 λb2 w1=>
 qi 94 [qI a1] w1 λx4 w2=>
 nn a0 λp7=>
 iF w2 (p7.add 2) λx8=>
 qi 170 [.pointer x8,qI x4] w2 λx9 w3=>
 cg w3 [qI 0,qI 0,.slice none 0 0] 175 λqt w4=>
 st w4 ((⟨qt,0,none⟩:Addr).add 0) (qI a1) λw5=>
 st w5 ((⟨qt,0,none⟩:Addr).add 1) (qI x9) λw6=>
 st w6 ((⟨qt,0,none⟩:Addr).add 2) (.slice none 0 0) λw7=>
 jn (σ:=Unit) (λfF=>
  nn a0 λqs=>
  iF w7 (qs.add 2) λfk=>
  qi 171 [.pointer fk,qI x4] w7 λfL w9=>
  bC (decide (fL >= 0)) (
   wS Tryz.prog (a2) [qI fL] w9 λe23 cK=>∃(j5:qA) (Ch LF:Nat),∃iU:Bool,e23=Ending.returned (.tuple #[.slice j5 Ch LF,.bool iU])/\
   st cK (((⟨qt,0,none⟩:Addr).add 2).add 0) (.slice j5 Ch LF) λdB=>
   fF (()) dB) (
   fF (()) w9)) λTV w8=>match TV with
 | (_)=>
 aW .i64 w8 ((⟨qt,0,none⟩:Addr).add 0) λiT=>
 aW .i64 w8 ((⟨qt,0,none⟩:Addr).add 1) λjj=>
 aZ w8 ((⟨qt,0,none⟩:Addr).add 2) λiI ir jB=>
 st w8 ((⟨b2,0,none⟩:Addr).add 0) (qI iT) λdF=>
 st dF ((⟨b2,0,none⟩:Addr).add 1) (qI jj) λeA=>
 st eA ((⟨b2,0,none⟩:Addr).add 2) (.slice iI ir jB) λeG=>
 aW .i64 eG ((⟨b2,0,none⟩:Addr).add 0) λjN=>
 aW .i64 eG ((⟨b2,0,none⟩:Addr).add 1) λjo=>
 aZ eG ((⟨b2,0,none⟩:Addr).add 2) λm_ Cg G9=>
 R (.agg #[qI jN,qI jo,.slice m_ Cg G9]) eG
theorem HZ (a0 a1 a2 w R) (h:aeN a0 a1 a2 w R):qE 138 #[.pointer a0,qI a1,a2] w R:=qv (.s .l (.s .l (.s .l (.s (.j [] (.s .l (.s .l (.c .l .l)))) (.s .l .l))))) Tryz.func138 (by kernel_rfl) (by kernel_rfl) h
theorem aeO:br qQ 138:=by kernel_rfl
def aeP (bM:Int) (bN:Int) (gG:qA) (i_:Nat) (ja:Nat) (c0:Addr) (w:World) (R:qR):Prop:=
 cg w [qI bM,qI bN,.slice gG i_ ja] 175 λb2 w1=>
 qC w1.drew b2 2 λx3 sV F5=>
 gd (α:=(qA×Nat×Nat)) (decide ((sV:Int)>0)) (λk4=>
  qC w1.drew b2 2 λx5 sS yU=>
  k4 (x5,sS,yU) w1.drew) (none,0,0) w1.drew λx6 _=>
 gd (α:=(qA)) (decide ((sV:Int)>0)) (λk7=>
  iF w1.drew c0 λx8=>
  k7 x8 w1.drew) none w1.drew λx9 _=>
 gd (α:=Addr) (decide ((sV:Int)>0)) (λfD=>
  nn x9 λrF=>
  fD rF w1.drew) ⟨0,0,none⟩ w1.drew λdJ _=>
 gd (α:=(qA×Nat×Nat)) (decide ((sV:Int)>0)) (λgQ=>
  aZ w1.drew (dJ.add 1) λdV fM gU=>
  gQ (dV,fM,gU) w1.drew) (none,0,0) w1.drew λeP _=>
 gd (α:=Bool) (decide ((sV:Int)>0)) (λsJ=>
  qb 200 [.slice x6.1 x6.2.1 x6.2.2,.slice eP.1 eP.2.1 eP.2.2] w1.drew λfL w2=>
  sJ fL w2) false w1.drew λic w3=>
 R (.bool (cond (decide ((sV:Int)>0)) ic false)) w3
theorem H6 (bM bN gG i_ ja c0 w R) (h:aeP bM bN gG i_ ja c0 w R):qE 199 #[.agg #[qI bM,qI bN,.slice gG i_ ja],.pointer (some c0)] w R:=qv (.s .l (.s (.d [0,1,3,7,15,31,63,31,159,415,927,2047,4095,8191]) .l)) Tryz.func199 (by kernel_rfl) (by kernel_rfl) h
theorem aeQ:br qQ 199:=by kernel_rfl
def aeR (a0:qA) (bQ:Nat) (cF:Nat) (a1:Value) (w:World) (R:qR):Prop:=
 jn (σ:=Unit) (λk2=>
  bC (decide ((bQ:Int)<1)) (
   False) (
   k2 (()) w)) λs3 w1=>match s3 with
 | (_)=>
 cr a0 bQ 0 1 λp7=>
 aW .i64 w1 p7 λx8=>
 lp (σ:=Int×Int×Unit) (λTV w2 fF=>match TV with
  | (v10,v11,_)=>
  bC (decide (v11<(bQ:Int))) (
   jn (σ:=Int×Unit) (λsJ=>
    cr a0 bQ v11 1 λPr=>
    aW .i64 w2 Pr λeX=>
    wS Tryz.prog (a1) [qI eX,qI v10] w2 λe22 w4=>∃j5:Int,e22=Ending.returned (qI j5)/\
    bC (decide (j5>0)) (
     cr a0 bQ v11 1 λTT=>
     aW .i64 w4 TT λiT=>
     sJ (iT,()) w4) (
     sJ (v10,()) w4)) λs17 w3=>match s17 with
   | (LM,_)=>
   fF (LM,(IntKind.wrap .i64 (v11+1)),()) w3) (
   R (qI v10) w2)) (x8,1,()) w1
theorem H7 (a0 bQ cF a1 w R) (h:aeR a0 bQ cF a1 w R):qE 143 #[.slice a0 bQ cF,a1] w R:=qv (.s .l (.s (.j [] (.s .l (.c .l .l))) (.s .l (.s (.s .l (.b (.o [(5,.one (.int .i64)),(6,.one (.int .i64))] (.s (.s .l (.c .l .l)) (.s (.j [(5,.one (.int .i64))] (.b (.s .l (.c .l .l)))) .l))))) (.s .l .l))))) Tryz.func143 (by kernel_rfl) (by kernel_rfl) h
theorem aeS:br qQ 143:=by kernel_rfl
def aeT (a0:qA) (bQ:Nat) (cF:Nat) (a1:Int) (a2:Int) (w:World) (R:qR):Prop:=
 (0:Int)<=(bQ:Int)/\(bQ:Int)<=(cF:Int)/\(0:Int)<=a2/\a2<=(bQ:Int)/\(0:Int)<=a1/\a1<=a2/\
 bC (a1==a2) (
  R (.slice a0 bQ cF) w) (
  (0:Int)<=a1/\a1<=(cF:Int)/\
  (0:Int)<=a2/\a2<=(bQ:Int)/\
  qp 115 #[.slice (jZ a0 cF 0 1) ((Int.toNat a1) - 0) (cF - 0),.slice (jZ a0 cF (Int.toNat a2) 1) (bQ - (Int.toNat a2)) (cF - (Int.toNat a2))] w.drew λx6 N9 SV w1=>
  (0:Int)<=(bQ:Int)/\(bQ:Int)<=(SV:Int)/\(0:Int)<=(N9:Int)/\(N9:Int)<=(bQ:Int)/\
  ∃w2:World,(Builtin.clear_ #[115] 0 #[.slice (jZ x6 SV (Int.toNat (N9:Int)) 1) ((Int.toNat (bQ:Int)) - (Int.toNat (N9:Int))) (SV - (Int.toNat (N9:Int)))]).run Tryz.prog w1=.ok (.tuple #[]) w2/\
  R (.slice x6 N9 SV) w2)
theorem H8 (a0 bQ cF a1 a2 w R) (h:aeT a0 bQ cF a1 a2 w R):qE 182 #[.slice a0 bQ cF,qI a1,qI a2] w R:=qv (.s .l (.s .l (.s (.s .l (.c (.s .l .l) .l)) (.s .l (.s (.d [0,0,3,0,0,24,63,127]) (.s .l (.s .l .l))))))) Tryz.func182 (by kernel_rfl) (by kernel_rfl) h
theorem aeU:br qQ 182:=by kernel_rfl
def aeV (a0:qA) (bQ:Nat) (cF:Nat) (a1:Value) (w:World) (R:qR):Prop:=
 qi 207 [.slice a0 bQ cF,a1] w λx3 w1=>
 R (.bool (decide (x3 >= 0))) w1
theorem H9 (a0 bQ cF a1 w R) (h:aeV a0 bQ cF a1 w R):qE 198 #[.slice a0 bQ cF,a1] w R:=qv (.s .l (.s .l .l)) Tryz.func198 (by kernel_rfl) (by kernel_rfl) h
theorem aeW:br qQ 198:=by kernel_rfl
def aeX (a0:qA) (bQ:Nat) (cF:Nat) (a1:Value) (w:World) (R:qR):Prop:=
 lp (σ:=Int×Unit) (λs5 w1 k4=>match s5 with
  | (v3,_)=>
  bC (decide (v3<(bQ:Int))) (
   cr a0 bQ v3 3 λp9=>
   aW .i64 w1 (p9.add 0) λdR=>
   aW .i64 w1 (p9.add 1) λfh=>
   aZ w1 (p9.add 2) λdJ mP qw=>
   wS Tryz.prog (a1) [.agg #[qI dR,qI fh,.slice dJ mP qw]] w1 λe14 w2=>∃eV:Bool,e14=Ending.returned (.bool eV)/\
   bC eV (
    R (qI v3) w2) (
    k4 ((IntKind.wrap .i64 (v3+1)),()) w2)) (
   R (qI (-1)) w1)) (0,()) w
theorem H_ (a0 bQ cF a1 w R) (h:aeX a0 bQ cF a1 w R):qE 207 #[.slice a0 bQ cF,a1] w R:=qv (.s .l (.s (.s .l (.b (.o [(8,.one (.int .i64))] (.s .l (.s (.c .l .l) (.s (.b (.s .l (.s .l (.c (.s .l .l) .l)))) .l)))))) (.s .l .l))) Tryz.func207 (by kernel_rfl) (by kernel_rfl) h
theorem aeY:br qQ 207:=by kernel_rfl
end T
namespace Vc
open Go
open Go
def dec (e:MapEntry):Int×Int:=match e.key,e.val with | .int _ a,.int _ b=>(a,b) | _,_=>(0,0)
def Kv (e:MapEntry):Prop:=e.key=.int .i64 (dec e).1/\e.val=.int .i64 (dec e).2
theorem XQ {e:MapEntry} {a b:Int} (h1:e.key=.int .i64 a) (h2:e.val=.int .i64 b):Kv e/\dec e=(a,b):=by
 have:dec e=(a,b):=by unfold dec; rw [h1,h2]
 exact ⟨by unfold Kv; rw [this]; exact ⟨h1,h2⟩,this⟩
structure Es (es:Array MapEntry) (clock:Nat) (f:List (Int×Int)):Prop where
 kv:∀e∈es.toList,Kv e
 eq:f=es.toList.map dec
 lt:∀e∈es.toList,e.born<clock
 nd:(es.toList.map λe:MapEntry=>e.born).Nodup
def Ms (w:World) (r:Nat) (f:List (Int×Int)):Prop:=∃es clock,w.heap[r]?=some (.map es clock)/\Es es clock f
theorem Es.mp {es:Array MapEntry} {clock:Nat} {f:List (Int×Int)} (h:Es es clock f):es.toList.map (λe=>(e.key,e.val))=f.map λp=>((.int .i64 p.1:Value),(.int .i64 p.2:Value)):=by
 rw [h.eq,List.map_map];exact List.map_congr_left λe he=>by
  have:=h.kv e he;show (e.key,e.val)=(.int .i64 (dec e).1,.int .i64 (dec e).2);rw [<-this.1,<-this.2]
theorem Ms.mp {w:World} {r:Nat} {f:List (Int×Int)} (h:Ms w r f):Mp w r f:=by
 obtain ⟨es,clock,hb,he⟩:=h;exact ⟨es,clock,hb,he.mp⟩
theorem Ms.ax {S:Nat->Prop} {w w':World} {r:Nat} {f:List (Int×Int)} (h:Ms w r f) (hk:af S w w') (hs:¬S r):Ms w' r f:=by
 obtain ⟨es,clock,hb,he⟩:=h;exact ⟨es,clock,by rw [hk.block r (Array.getElem?_eq_some_iff.1 hb).1 hs]; exact hb,he⟩
theorem Ms.aa {w w':World} {r:Nat} {f:List (Int×Int)} (h:Ms w r f) (hk:af aq w w'):Ms w' r f:=h.ax hk λh=>h
theorem Ms.lt {w:World} {r:Nat} {f:List (Int×Int)} (h:Ms w r f):r<w.heap.size:=h.mp.lt
theorem ME {P:Program} {t:TypeId} {w:World} {K:Option Nat->World->Prop} (hk:∀r w',r=w.heap.size->Ms w' r []->af aq w w'->K (some r) w') :
  ∃x:Option Nat,∃w1:World,(Instr.makeMap t none).run P w=.ok (.map x) w1/\K x w1:=
 ⟨some w.heap.size,w.alloc (.map #[] 0),by simp [Instr.makeMap],hk _ _ rfl ⟨#[],0,(MapKept.heap_alloc w _).1,⟨λe h=>by simp at h,rfl,λe h=>by simp at h,by simp⟩⟩ ((af.refl _ w).alloc _)⟩
theorem QH {e:MapEntry} : ∀{L:List MapEntry},(L.map λe:MapEntry=>e.born).Nodup->e∈L->L.Perm (e :: L.filter λx=>x.born != e.born):=by
 intro L;induction L with
 | nil=>intro _ h; cases h
 | cons a t ih=>
  intro hn he;rw [List.map_cons,List.nodup_cons] at hn;by_cases hb:a.born=e.born
  ·have dO:e∉t:=λh=>hn.1 (by rw [hb]; exact List.mem_map.2 ⟨e,h,rfl⟩);have hae:a=e:=by
    rcases List.mem_cons.1 he with h | h
    ·exact h.symm
    ·exact absurd h dO
   subst hae;have:(a :: t).filter (λx=>x.born != a.born)=t:=by
    rw [List.filter_cons_of_neg (by simp),List.filter_eq_self];intro x hx;have:x.born≠a.born:=λh=>hn.1 (by rw [<-h]; exact List.mem_map.2 ⟨x,hx,rfl⟩);simpa using this
   rw [this]
  ·have het:e∈t:=by
    rcases List.mem_cons.1 he with h | h
    ·exact absurd (by rw [h]) hb
    ·exact h
   rw [List.filter_cons_of_pos (by simpa using hb)];exact ((ih hn.2 het).cons a).trans (List.Perm.swap _ _ _)
def It (w:World) (q r:Nat) (f todo:List (Int×Int)):Prop:=
 ∃es clock seen,w.heap[r]?=some (.map es clock)/\Es es clock f/\w.heap[q]?=some (.mapIter (some r) clock seen clock)/\todo=(leftOf es seen).toList.map dec
theorem It.ms {w:World} {q r:Nat} {f todo:List (Int×Int)} (h:It w q r f todo):Ms w r f:=by
 obtain ⟨es,clock,seen,hb,he,_⟩:=h;exact ⟨es,clock,hb,he⟩
theorem It.lt {w:World} {q r:Nat} {f todo:List (Int×Int)} (h:It w q r f todo):q<w.heap.size:=by
 obtain ⟨es,clock,seen,hb,he,hq,_⟩:=h;exact (Array.getElem?_eq_some_iff.1 hq).1
theorem It.ax {S:Nat->Prop} {w w':World} {q r:Nat} {f todo:List (Int×Int)} (h:It w q r f todo) (hk:af S w w') (hq:¬S q) (hr:¬S r):It w' q r f todo:=by
 obtain ⟨es,clock,seen,hb,he,hi,ht⟩:=h;exact ⟨es,clock,seen,by rw [hk.block r (Array.getElem?_eq_some_iff.1 hb).1 hr]; exact hb,he,by rw [hk.block q (Array.getElem?_eq_some_iff.1 hi).1 hq]; exact hi,ht⟩
theorem It.aa {w w':World} {q r:Nat} {f todo:List (Int×Int)} (h:It w q r f todo) (hk:af aq w w'):It w' q r f todo:=h.ax hk (λh=>h) λh=>h
section
variable {P:Program} {mty kt et:TypeId} {w:World} {r q:Nat} {f todo:List (Int×Int)}
theorem ER {K:Addr->World->Prop} (hm:P.underlying mty=some (.map kt et)) (h:Ms w r f) (hk:∀q w',q=w.heap.size->It w' q r f f->af aq w w'->K ⟨q,0,none⟩ w') :
  ∃(a:Addr) (w':World),(Instr.range mty (.map (some r))).run P w=.ok (.pointer (some a)) w'/\K a w':=by
 obtain ⟨es,clock,hb,he⟩:=h;have aM:=(Array.getElem?_eq_some_iff.1 hb).1;refine ⟨_,_,run_range_map w mty kt et r es clock hm hb,hk _ _ rfl ⟨es,clock,#[],?_,he,(MapKept.heap_alloc w _).1,?_⟩ ((af.refl _ w).alloc _)⟩
 ·exact ((MapKept.heap_alloc w _).2 r aM).trans hb
 ·rw [he.eq];have:(leftOf es #[]).toList=es.toList:=by
   unfold leftOf;rw [Array.toList_filter];exact List.filter_eq_self.2 λx _=>by simp
  rw [this]
theorem J6 {ty:TypeId} {K:Bool->World->Prop} (h:It w q r f todo) (hqr:q≠r) (h0:todo=[]->K false w)
  (h1:∀p jV w',p∈todo->todo.Perm (p :: jV)->It w' q r f jV->af (One q) w w'->w'.heap.size=w.heap.size->
   (Instr.entry (.pointer (some ⟨q,0,none⟩))).run P w'=.ok (.tuple #[.int .i64 p.1,.int .i64 p.2]) w'->K true w') :
  ∃(b:Bool) (l:List Value) (w':World),(Instr.next (.pointer (some ⟨q,0,none⟩)) false ty).run P w=.ok (.tuple (.bool b :: l).toArray) w'/\K b w':=by
 obtain ⟨es,clock,seen,hb,he,hq,ht⟩:=h;rcases run_next_at (P:=P) w ty q r clock clock seen es clock hq hb he.lt (Nat.le_refl _) with ⟨hz,sD⟩ | ⟨e,uj,w1,Po,sD⟩
 ·refine ⟨false,[],w,sD,h0 ?_⟩;rw [ht,Array.eq_empty_of_size_eq_zero hz]; rfl
 ·have pq:e∈es.toList:=by unfold leftOf at uj; simp at uj; simpa using uj.1
  have Gh:=he.kv e pq;have um:w1.heap[r]?=some (.map es clock):=by rcases Po with rfl | rfl<;>exact hb
  have hq1:w1.heap[q]?=some (.mapIter (some r) clock seen clock):=by rcases Po with rfl | rfl<;>exact hq
  have akF:=(Array.getElem?_eq_some_iff.1 hq1).1;have aoD:=(Array.getElem?_eq_some_iff.1 um).1;have hbs:(Go.ChangeMaps.setBlock w1 q (.mapIter (some r) clock (seen.push e.born) clock)).heap[r]?=some (.map es clock):=by
   show (w1.heap.setIfInBounds q _)[r]?=_;rw [Array.getElem?_setIfInBounds_ne hqr]; exact um
  have hqs:(Go.ChangeMaps.setBlock w1 q (.mapIter (some r) clock (seen.push e.born) clock)).heap[q]?=some (.mapIter (some r) clock (seen.push e.born) clock):=by
   show (w1.heap.setIfInBounds q _)[q]?=_;rw [Array.getElem?_setIfInBounds_self_of_lt akF]
  have uV:=run_entry_at (P:=P) _ q r clock seen es clock e hqs hbs pq he.nd;rw [Gh.1,Gh.2] at sD uV;have uN:af (One q) w w1:=by
   rcases Po with rfl | rfl
   ·exact af.refl _ _
   ·exact (af.refl _ w).drew
  have vP:w1.heap.size=w.heap.size:=by rcases Po with rfl | rfl<;>rfl
  refine ⟨true,[.int .i64 (dec e).1,.int .i64 (dec e).2],_,sD,h1 (dec e) ((leftOf es (seen.push e.born)).toList.map dec) _ ?_ ?_ ⟨es,clock,seen.push e.born,hbs,he,hqs,rfl⟩ ?_ ?_ uV⟩
  ·rw [ht]; exact List.mem_map.2 ⟨e,uj,rfl⟩
  ·rw [ht];have TF:((leftOf es seen).toList.map λe:MapEntry=>e.born).Nodup:=by
    unfold leftOf;rw [Array.toList_filter];exact he.nd.sublist ((List.filter_sublist ..).map _)
   have hp:=(QH TF uj).map dec;have e2:(leftOf es (seen.push e.born)).toList=(leftOf es seen).toList.filter λx=>x.born != e.born:=by
    unfold leftOf;rw [Array.toList_filter,Array.toList_filter,List.filter_filter];congr 1;funext x;rw [Array.contains_push];cases seen.contains x.born<;>simp [bne]
   rw [e2];exact hp
  ·refine uN.trans (S':=One q) ⟨rfl,rfl,rfl,?_,λi hi hn=>?_⟩ λi _ h=>h
   ·show w1.heap.size<=(w1.heap.setIfInBounds q _).size;simp
   ·show (w1.heap.setIfInBounds q _)[i]?=_;rw [Array.getElem?_setIfInBounds_ne (λe=>hn e.symm)]
  ·show (w1.heap.setIfInBounds q _).size=_;simp [vP]
theorem It.len {w:World} (h:It w q r f todo):todo.length<=f.length:=by
 obtain ⟨es,clock,seen,hb,he,hq,ht⟩:=h;rw [ht,he.eq];unfold leftOf;rw [Array.toList_filter];simp only [List.length_map];exact List.length_filter_le ..
theorem QI {K:World->Prop} {k v:Int} (hm:P.underlying mty=some (.map kt et)) (hd:P.underlying kt=some (.int .i64)) (h:Ms w r f) (hk:∀w',Ms w' r (gV k v f)->af (One r) w w'->w'.heap.size=w.heap.size->K w') :
  ∃w':World,(Instr.mapUpdate mty (.map (some r)) (.int .i64 k) (.int .i64 v)).run P w=.ok () w'/\K w':=by
 obtain ⟨es,clock,hb,hE⟩:=h;have he:=hE.mp;have mS:MapKept.IsKey (.int .i64) (.int .i64 k):=rfl;have kp:∀o,af (One r) w {w with heap:=w.heap.setIfInBounds r o}:=λo=>⟨rfl,rfl,rfl,by simp,λi hi hn=>(MapKept.heap_set hb).2 i hn⟩
 rcases mD k es.toList f 0 he with ⟨h1,h2⟩ | ⟨h1,j,h2,e,h3,h4,h5⟩
 ·refine ⟨{w with heap:=w.heap.setIfInBounds r (.map (es.push {key:=.int .i64 k,val:=.int .i64 v,born:=clock}) (clock+1))},?_,hk _ ⟨_,_,(MapKept.heap_set hb).1,?_⟩ (kp _) (by simp)⟩
  ·simp [Instr.mapUpdate,run_underlying hm,MapKept.run_getObj_map hb,MapKept.run_checkKey hd mS,MapKept.run_findKey hd h2,MapKept.run_setObj_map _ hb,Result.andThen]
  ·have:=Cs (v:=v) h1;rw [this];refine ⟨λx hx=>?_,?_,λx hx=>?_,?_⟩
   ·simp at hx;rcases hx with hx | rfl
    ·exact hE.kv x (by simpa using hx)
    ·exact (XQ rfl rfl).1
   ·rw [hE.eq]; simp [dec]
   ·simp at hx;rcases hx with hx | rfl
    ·have:=hE.lt x (by simpa using hx); omega
    ·exact Nat.lt_succ_self _
   ·simp only [Array.toList_push,List.map_append,List.map_cons,List.map_nil];rw [List.nodup_append];refine ⟨hE.nd,by simp,λa ha b hb=>?_⟩;simp at hb;subst hb;obtain ⟨x,hx,rfl⟩:=List.mem_map.1 ha;have:=hE.lt x hx; omega
 ·have hj:es[j]?=some e:=by simpa using h3
  refine ⟨{w with heap:=w.heap.setIfInBounds r (.map (es.modify j λe=>{e with key:=.int .i64 k,val:=.int .i64 v}) clock)},?_,hk _ ⟨_,_,(MapKept.heap_set hb).1,?_⟩ (kp _) (by simp)⟩
  ·simp [Instr.mapUpdate,run_underlying hm,MapKept.run_getObj_map hb,MapKept.run_checkKey hd mS,MapKept.run_findKey hd h2,hj,h4,MapKept.run_keyThatStays mS,MapKept.run_setObj_map _ hb,Result.andThen]
  ·have h5v:=h5 v;have mem:∀(l:List MapEntry) (j:Nat) (x:MapEntry),x∈l.modify j (λe=>{e with key:=.int .i64 k,val:=.int .i64 v})->x∈l\/∃e∈l,x={e with key:=.int .i64 k,val:=.int .i64 v}:=by
    intro l;induction l with
    | nil=>intro j x hx; simp at hx
    | cons a l ih=>
     intro j x hx;cases j with
     | zero=>
      simp only [List.modify_zero_cons,List.mem_cons] at hx;rcases hx with rfl | hx
      ·exact Or.inr ⟨a,by simp,rfl⟩
      ·exact Or.inl (by simp [hx])
     | succ j=>
      simp only [List.modify_succ_cons,List.mem_cons] at hx;rcases hx with rfl | hx
      ·exact Or.inl (by simp)
      ·rcases ih j x hx with h | ⟨e,he,rfl⟩
       ·exact Or.inl (by simp [h])
       ·exact Or.inr ⟨e,by simp [he],rfl⟩
   have born:∀(l:List MapEntry) (j:Nat),(l.modify j (λe=>{e with key:=.int .i64 k,val:=.int .i64 v})).map (λe:MapEntry=>e.born)=l.map λe:MapEntry=>e.born:=by
    intro l;induction l with
    | nil=>intro j; simp
    | cons a l ih=>intro j; cases j<;>simp [ih]
   have Gh:∀x∈(es.toList.modify j λe=>{e with key:=.int .i64 k,val:=.int .i64 v}),Kv x:=λx hx=>by
    rcases mem _ _ _ hx with h | ⟨e,he,rfl⟩
    ·exact hE.kv x h
    ·exact (XQ rfl rfl).1
   refine ⟨λx hx=>Gh x (by simpa using hx),?_,λx hx=>?_,?_⟩
   ·rw [Array.toList_modify];have h6:=congrArg (List.map λp:Value×Value=>(match p.1,p.2 with | .int _ a,.int _ b=>(a,b) | _,_=>((0:Int),(0:Int)))) h5v;rw [List.map_map,List.map_map] at h6;have e1:(gV k v f).map ((λp:Value×Value=>(match p.1,p.2 with | .int _ a,.int _ b=>(a,b) | _,_=>((0:Int),(0:Int)))) ∘ λp:Int×Int=>((.int .i64 p.1:Value),(.int .i64 p.2:Value)))=gV k v f:=by
     conv=>rhs; rw [<-List.map_id (gV k v f)]
     exact List.map_congr_left λp _=>rfl
    rw [e1] at h6;rw [<-h6];exact List.map_congr_left λp _=>rfl
   ·rw [Array.toList_modify] at hx;rcases mem _ _ _ hx with h | ⟨e,he,rfl⟩
    ·exact hE.lt x h
    ·exact hE.lt e he
   ·rw [Array.toList_modify,born]; exact hE.nd
def mW (k:Int):List (Int×Int)->List (Int×Int)
 | []=>[]
 | p :: f=>if p.1=k then f else p :: mW k f
theorem aaO {ty:TypeId} {K:World->Prop} {k:Int} (hm:P.underlying mty=some (.map kt et)) (hd:P.underlying kt=some (.int .i64)) (h:Ms w r f) (hk:∀w',Ms w' r (mW k f)->af (One r) w w'->w'.heap.size=w.heap.size->K w') :
  ∃w':World,(Builtin.delete_ #[mty,kt] ty #[.map (some r),.int .i64 k]).run P w=.ok (.tuple #[]) w'/\K w':=by
 obtain ⟨es,clock,hb,hE⟩:=h;have he:=hE.mp;have mS:MapKept.IsKey (.int .i64) (.int .i64 k):=rfl;have kp:∀o,af (One r) w {w with heap:=w.heap.setIfInBounds r o}:=λo=>⟨rfl,rfl,rfl,by simp,λi hi hn=>(MapKept.heap_set hb).2 i hn⟩
 have dno:∀{f:List (Int×Int)},nD k f=false->mW k f=f:=by
  intro f;induction f with
  | nil=>intro _; rfl
  | cons p f ih=>
   intro h;have h':p.1≠k/\nD k f=false:=by simpa [nD] using h
   rw [mW,if_neg h'.1,ih h'.2]
 have ers:∀(l:List MapEntry) (f:List (Int×Int)) (i j:Nat) (x:Nat×Value),f=l.map dec->(∀e∈l,Kv e)->Instr.findNow (.int .i64) (.int .i64 k) l i=some (some x)->x.1=i+j->mW k f=(l.eraseIdx j).map dec:=by
  intro l;induction l with
  | nil=>intro f i j x _ _ h; simp [Instr.findNow] at h
  | cons e l ih=>
   intro f i j x hf Gh h hx;subst hf;have hke:=(Gh e (by simp)).1;simp only [Instr.findNow] at h;by_cases hp:(dec e).1=k
   ·have hs:Instr.sameNow (.int .i64) (.int .i64 k) e.key=some true:=by rw [hke,hp]; simp [Instr.sameNow]
    rw [hs] at h;simp at h;subst h;obtain rfl:j=0:=by simp at hx; omega
    simp [mW,hp]
   ·have hs:Instr.sameNow (.int .i64) (.int .i64 k) e.key=some false:=by rw [hke]; simp [Instr.sameNow]; exact λe=>hp e.symm
    rw [hs] at h;have bL:∀(l:List MapEntry) (i:Nat),Instr.findNow (.int .i64) (.int .i64 k) l i=some (some x)->i<=x.1:=by
     intro l;induction l with
     | nil=>intro i h; simp [Instr.findNow] at h
     | cons e l ih=>
      intro i h;simp only [Instr.findNow] at h;split at h
      ·simp at h; rw [<-h]; exact Nat.le_refl _
      ·have:=ih (i+1) h; omega
      ·cases h
    have:=bL l (i+1) h;obtain ⟨j',rfl⟩:∃j',j=j'+1:=⟨j - 1,by omega⟩
    have:=ih (l.map dec) (i+1) j' x rfl (λe he=>Gh e (by simp [he])) h (by omega);simp [mW,hp,this]
 rcases mD k es.toList f 0 he with ⟨h1,h2⟩ | ⟨h1,j,h2,e,h3,h4,h5⟩
 ·refine ⟨{w with heap:=w.heap.setIfInBounds r (.map es clock)},?_,hk _ ⟨es,clock,(MapKept.heap_set hb).1,by rw [dno h1]; exact hE⟩ (kp _) (by simp)⟩;simp [Builtin.delete_,run_underlying hm,MapKept.run_getObj_map hb,MapKept.run_checkKey hd mS,MapKept.run_findKey hd h2,MapKept.run_setObj_map _ hb,Result.andThen]
 ·refine ⟨{w with heap:=w.heap.setIfInBounds r (.map (es.eraseIdxIfInBounds j) clock)},?_,hk _ ⟨_,_,(MapKept.heap_set hb).1,?_⟩ (kp _) (by simp)⟩
  ·simp [Builtin.delete_,run_underlying hm,MapKept.run_getObj_map hb,MapKept.run_checkKey hd mS,MapKept.run_findKey hd h2,MapKept.run_setObj_map _ hb,Result.andThen]
  ·have iX:(es.eraseIdxIfInBounds j).toList=es.toList.eraseIdx j:=by
    rw [Array.eraseIdxIfInBounds];split
    ·rw [Array.toList_eraseIdx]
    ·rename_i hn;rw [List.eraseIdx_of_length_le (by simpa using hn)]
   have sr:(es.toList.eraseIdx j).Sublist es.toList:=List.eraseIdx_sublist ..;refine ⟨λx hx=>hE.kv x (sr.subset (by rwa [iX] at hx)),?_,λx hx=>hE.lt x (sr.subset (by rwa [iX] at hx)),by rw [iX]; exact hE.nd.sublist (sr.map _)⟩;rw [iX];exact ers es.toList f 0 j _ hE.eq hE.kv h2 (by simp)
end
def tj (w:World) (r q:Nat):Nat:=match w.heap[r]?,w.heap[q]? with
 | some (.map es _),some (.mapIter _ _ seen _)=>(leftOf es seen).size
 | _,_=>0
theorem It.left {w:World} {q r:Nat} {f todo:List (Int×Int)} (h:It w q r f todo):tj w r q=todo.length:=by
 obtain ⟨es,clock,seen,hb,he,hq,ht⟩:=h;unfold tj;rw [hb,hq,ht];simp
theorem It.ne {w:World} {q r:Nat} {f todo:List (Int×Int)} (h:It w q r f todo):q≠r:=by
 obtain ⟨es,clock,seen,hb,he,hq,ht⟩:=h;rintro rfl;rw [hb] at hq; cases hq
theorem aaP (a:Int):∀(k:Nat) (L:List Int),L.Nodup->(∀x∈L,a<=x/\x<a+k)->L.length<=k:=by
 intro k;induction k with
 | zero=>
  intro L _ h;cases L with
  | nil=>exact Nat.le_refl _
  | cons x t=>have:=h x (by simp); omega
 | succ k ih=>
  intro L hn h;by_cases hm:a+k∈L
  ·have h1:=ih (L.erase (a+k)) (hn.erase _) λx hx=>by
    have h2:=(hn.mem_erase_iff).1 hx;have:=h x h2.2;have:=h2.1;omega
   rw [List.length_erase_of_mem hm] at h1;omega
  ·have h1:=ih L hn λx hx=>by
    have:=h x hx;have:x≠a+k:=λe=>hm (e ▸ hx);omega
   omega
end Vc
end Go.Proofs.YtagkgfmddflodaaGreat

