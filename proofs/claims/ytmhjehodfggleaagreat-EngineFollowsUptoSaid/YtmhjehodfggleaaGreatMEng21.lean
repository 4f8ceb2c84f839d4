/- An Engine in memory: the literal of the greatest level; the log through its interface. -/

import Derived.Test.YtmhjehodfggleaaGreatMEng11
set_option linter.unusedVariables false
set_option linter.unusedSimpArgs false
set_option linter.unusedSectionVars false
set_option maxRecDepth 100000
namespace Go.Proofs.YtmhjehodfggleaaGreat.Eng
open Go Go.Proofs.YtmhjehodfggleaaGreat.Vc Go.Proofs.YtmhjehodfggleaaGreat.T
open Go.Proofs.YtmhjehodfggleaaGreat.Apart (RdL own_rdl wrap_nat getE own_len take_snoc Sl sv New LL)
open Go.Proofs.YtmhjehodfggleaaGreat.Lits (fl fl_iff Ans ans_of formedP idx idx_range idx_inj indexP)
open Go.Proofs.YtmhjehodfggleaaGreat.Arn (Ar AR words off cw Got)
open Go.Proofs.YtmhjehodfggleaaGreat.Trail (TI Tr St valA levA reaA ownB Moved TLaid above upto freeA implA Open ent)
open Go.Proofs.YtmhjehodfggleaaGreat.Learn (En RdE)
def lvx (S:ES) (x:Int):Int:=levA S.nv S.R (x.natAbs:Int)
theorem lev_range {n:Nat} {R:List E} {L:List Int} (h:St n R L) (hn:n≤1048576) (v:Int) : -1≤levA n R v∧levA n R v≤1048576:=by
 unfold levA
 split
 ·split
  ·rename_i e he
   have:=h.lvl e (Trail.ent_some he).2
   have h1:=h.levs
   have h2:=h.len
   omega
  ·omega
 ·omega
section
variable {ex:Nat→Prop} {w:World} {b:Nat} {o:Nat→Int} {h:Hs} {S:ES}
theorem lower46 (hR:Rp ex w b o h S) {x y:Int} (hx:fl x=true) (hy:fl y=true) :
  Calls Tryz.prog 58 #[Pt b,I x,I y] w fun e w'=>e=.returned (I (lvx S x - lvx S y))∧Keep None w w':=by
 refine (V58_calls (some ⟨b,0,none⟩) x y w (fun v w'=>v=I (lvx S x - lvx S y)∧Keep None w w') ?_).mono fun e w' ⟨v,he,hv,hk⟩=>⟨by rw [he,hv],hk⟩
 unfold V58
 have kd:Keep None w w.drew:=(Keep.refl _ _).drew
 have hRd:=hR.keep0 kd
 have hfx:=fl_iff.1 hx
 have hfy:=fl_iff.1 hy
 have ev:∀{l:Int},fl l=true→(if 1≤l.natAbs∧l.natAbs≤1048576 then (l.natAbs:Int) else 0)=l.natAbs:=fun {l} hl=>if_pos ⟨by have:=fl_iff.1 hl; omega,by have:=fl_iff.1 hl; omega⟩
 have c2:∀{V:World},Rp ex V b o h S→∀{K:Option Addr→Prop},K (some ⟨h.T.t,0,none⟩)→ldP V ((⟨b,0,none⟩:Addr).add 2) K:=fun {V} hRV {K} hK=>by
  rw [add_mk]; exact ldP_of (hRV.self.cell 2) hK
 refine nn_of (c2 hRd (nn_of (c2 hRd ?_)))
 refine cl_of ok103 (Trail.var52 x _ (by omega)) fun e w1 ⟨he,hw1⟩=>⟨_,he,?_⟩
 subst hw1
 rw [ev hx]
 refine ⟨c2 hRd rfl,c2 hRd rfl,?_⟩
 refine cl_of ok102 (hRd.tr.levelOf _ (by omega)) fun e w2 ⟨he,k2⟩=>⟨_,he,?_⟩
 have hR2:=hRd.keep0 k2
 refine ⟨c2 hR2 rfl,cl_of ok103 (Trail.var52 y _ (by omega)) fun e w3 ⟨he,hw3⟩=>⟨_,he,?_⟩⟩
 subst hw3
 rw [ev hy]
 refine ⟨c2 hR2 rfl,cl_of ok102 (hR2.tr.levelOf _ (by omega)) fun e w4 ⟨he,k4⟩=>⟨_,he,?_,(kd.then0 k2).then0 k4⟩⟩
 have r1:=lev_range hR.tr.st hR.nv (x.natAbs:Int)
 have r2:=lev_range hR.tr.st hR.nv (y.natAbs:Int)
 show I (IntKind.wrap .i64 _)=_
 rw [IntKind.wrap_i64]
 unfold lvx
 congr 1
 omega
def maxL (S:ES):List Int→Int
 | []=>0
 | x :: xs=>xs.foldl (fun m y=>if 0<lvx S y - lvx S m then y else m) x
theorem maxL_mem (S:ES) {cs:List Int} (h:cs≠[]):maxL S cs∈cs:=by
 cases cs with
 | nil=>exact absurd rfl h
 | cons x xs=>
  have:∀(ys:List Int) (m:Int),ys.foldl (fun m y=>if 0<lvx S y - lvx S m then y else m) m=m∨ys.foldl (fun m y=>if 0<lvx S y - lvx S m then y else m) m∈ys:=fun ys=>by
   induction ys with
   | nil=>intro m; exact Or.inl rfl
   | cons y ys ih=>
    intro m
    rw [List.foldl_cons]
    rcases ih (if 0<lvx S y - lvx S m then y else m) with h1 | h1
    ·rw [h1]
     split
     ·exact Or.inr (by simp)
     ·exact Or.inl rfl
    ·exact Or.inr (List.mem_cons_of_mem _ h1)
  rcases this xs x with h1 | h1
  ·show xs.foldl _ x∈_
   rw [h1]; simp
  ·exact List.mem_cons_of_mem _ h1
theorem max45 (hR : Rp ex w b o h S) {p : Option Addr} {n c : Nat} {cs : List Int} (hC : RdL w p n cs) (hne : cs ≠ []) (hn : n ≤ 17592186044416) (hf : ∀ x ∈ cs, fl x = true) :
    Calls Tryz.prog 57 #[.slice p n c, .func (.func 58) #[Pt b] #[]] w fun e w' => e = .returned (I (maxL S cs)) ∧ Keep None w w' := by
  refine (V57_calls p n c (.func (.func 58) #[Pt b] #[]) w (fun v w' => v = I (maxL S cs) ∧ Keep None w w') ?_).mono fun e w' ⟨v, he, hv, hk⟩ => ⟨by rw [he, hv], hk⟩
  unfold V57
  have hl := hC.len
  have hpos : 0 < cs.length := List.length_pos_iff.2 hne
  refine ⟨fun _ W => W = w, ?_, ?_⟩
  · exact pif_f (by have : ¬ (n : Int) < 1 := by omega
                    exact decide_eq_false this) rfl
  rintro ⟨⟩ w1 rfl
  dsimp only
  obtain ⟨x0, hx0⟩ := getE hpos
  have ecs : cs = x0 :: cs.drop 1 := by
    cases cs with
    | nil => exact absurd rfl hne
    | cons z zs => simp only [List.getElem?_cons_zero, Option.some.injEq] at hx0; rw [hx0]; rfl
  refine hC.ix (i := 0) (by omega) fun a x hx ha => ldI_of ha ?_
  have : x = x0 := by rw [hx0] at hx; injection hx with hx; exact hx.symm
  subst this
  refine lp_of (fun s W => ∃ i : Nat, s.2.1 = (i : Int) ∧ 1 ≤ i ∧ i ≤ n ∧ s.1 = maxL S (cs.take i) ∧ Keep None w1 W) (fun s _ => (n - s.2.1).toNat) ⟨1, rfl, Nat.le_refl _, by omega, by rw [ecs]; rfl, Keep.refl _ _⟩ ?_
  rintro ⟨m, i', ⟨⟩⟩ W ⟨i, rfl, hi1, hi, hm, kW⟩
  dsimp only at hm ⊢
  refine pif_of (fun hlt => ?_) fun hge => ?_
  · have hlt : i < n := by simpa using hlt
    rw [wrap_nat i (by omega)]
    have hCW := hC.keep kW fun _ _ h => h
    have hRW := hR.keep0 kW
    have htne : cs.take i ≠ [] := fun e => by
      have := congrArg List.length e
      rw [List.length_take] at this; simp only [List.length_nil] at this; omega
    have hmm : m ∈ cs := by rw [hm]; exact (List.take_sublist i cs).subset (maxL_mem S htne)
    have nextM : ∀ y, cs[i]? = some y → maxL S (cs.take (i + 1)) = if 0 < lvx S y - lvx S m then y else m := fun y hy => by
      rw [hm, take_snocN hy]
      cases ht : cs.take i with
      | nil => exact absurd ht htne
      | cons z zs => show ((zs ++ [y]).foldl _ z) = _; rw [List.foldl_append]; rfl
    refine ⟨fun s W' => s.1 = maxL S (cs.take (i + 1)) ∧ Keep None w1 W', ?_, ?_⟩
    · refine hCW.ix hlt fun a y hy ha => ldI_of ha (Learn.clF_of ?_)
      have hyf := hf y (List.mem_of_getElem? hy)
      refine cl_of ok58 (lower46 hRW hyf (hf m hmm)) fun e w4 ⟨he, k4⟩ => ⟨_, he, ?_⟩
      have kk := kW.then0 k4
      refine pif_of (fun hq => ?_) fun hq => ?_
      · have hq : 0 < lvx S y - lvx S m := by simpa using hq
        refine (hC.keep kk fun _ _ h => h).ix hlt fun a y' hy' ha => ldI_of ha ⟨?_, kk⟩
        have : y' = y := by rw [hy] at hy'; injection hy' with hy'; exact hy'.symm
        subst this
        rw [nextM y' hy, if_pos hq]
      · have hq : ¬ 0 < lvx S y - lvx S m := by simpa using hq
        exact ⟨by rw [nextM y hy, if_neg hq], kk⟩
    · rintro ⟨m', ⟨⟩⟩ W' ⟨h1, h2⟩
      exact ⟨⟨i + 1, rfl, by omega, hlt, h1, h2⟩, by omega⟩
  · have hge : i = n := by have : ¬ (i : Int) < (n : Int) := by simpa using hge
                           omega
    subst hge
    rw [← hl, List.take_length] at hm
    exact ⟨by rw [hm], kW⟩
end
theorem note_is (q : Option Addr) (w : World) : (method (Tryz.prog.types.size + Made.depth) 98 (.pointer q) "depot/engine.note").run Tryz.prog w = .ok (205, .pointer q) w := by
 kernel_rfl
theorem noteM {ex:Nat→Prop} {w:World} {b:Nat} {o:Nat→Int} {h:Hs} {S:ES} (hR:Rp ex w b o h S) {dr:Bool} {p:Option Addr} {n c:Nat} {cs:List Int} (hC:RdL w p n cs) (hn:n≤8796093022208) (hlog:S.log.length≤1099511627776) {R:Ending→World→Prop}
    (hK : ∀ w', Nx tNote ex w b o h (noteS S dr cs) w' → R (.returned (.tuple #[])) w') : clM Tryz.prog (.iface 98 (Pt h.bk)) "depot/engine.note" [.agg #[.bool dr, .slice p n c]] w R :=
 ⟨98,Pt h.bk,205,Pt h.bk,rfl,fun w=>note_is _ w,cl_of ok205 (note125 hR hC hn hlog) fun e w' ⟨he,hN⟩=>by subst he; exact hK w' hN⟩
end Go.Proofs.YtmhjehodfggleaaGreat.Eng

/- An Engine in memory: it learns from a clash. -/

set_option linter.unusedVariables false
set_option linter.unusedSimpArgs false
set_option linter.unusedSectionVars false
set_option maxRecDepth 100000
namespace Go.Proofs.YtmhjehodfggleaaGreat.Eng
open Go Go.Proofs.YtmhjehodfggleaaGreat.Vc Go.Proofs.YtmhjehodfggleaaGreat.T
open Go.Proofs.YtmhjehodfggleaaGreat.Apart (RdL own_rdl wrap_nat getE own_len take_snoc Sl sv New LL)
open Go.Proofs.YtmhjehodfggleaaGreat.Lits (fl fl_iff Ans ans_of formedP idx idx_range idx_inj indexP)
open Go.Proofs.YtmhjehodfggleaaGreat.Arn (Ar AR words off cw Got)
open Go.Proofs.YtmhjehodfggleaaGreat.Trail (TI Tr St valA levA reaA ownB Moved TLaid above upto freeA implA Open ent)
open Go.Proofs.YtmhjehodfggleaaGreat.Learn (En RdE LSpec Askd shr Learnt Shrunk)
def deadS (S:ES):ES:=noteS {S with clash:=false,dead:=true} false []
def atN (S:ES):Int:=((words S.ar.cs).length:Nat)
def newHd (S:ES) (s:List Int):Hd:=⟨atN S,s,0,0,false⟩
def heldS (S:ES) (s:List Int):ES:=
 {putAr (noteS {S with clash:=false} false s) s with H:=S.H++[newHd S s],learnts:=S.learnts++[S.H.length]}
def eyesS (S:ES) (s:List Int):ES:=if 1<s.length then watchS (heldS S s) S.H.length (newHd S s) (s.headD 0) (maxL S s.tail) else heldS S s
def learnT (S:ES) (back:Int) (s:List Int):ES:=putS (cutS (eyesS S s) back) (s.headD 0) (atN S)
theorem Nx.nine {T:Int→Prop} {ex:Nat→Prop} {w w':World} {b:Nat} {o:Nat→Int} {h:Hs} {S:ES} (hN:Nx T ex w b o h S w') (ht:¬T (-9)):∃o' h',Rp ex w' b o' h' S∧Ag w o o'∧Keep (fun i=>T (o i)) w w'∧h'.hb=h.hb∧
  (∀{e:TypeId} {sz:Nat} {p:Option Addr} {n c:Nat} {xs:List Value},Own w e sz p n c xs→(∀j,ob p j→o j=-9)→Own w' e sz p n c xs∧∀j,ob p j→o' j=-9):=by
 obtain ⟨o',h',r,a,k,e⟩:=hN
 exact ⟨o',h',r,a,k,e,fun hO hn=>⟨own_K hO hn k ht,fun j hj=>by rw [a j (hO.lt j hj)]; exact hn j hj⟩⟩
theorem keep_nine {T:Int→Prop} (ht:¬T (-9)) {w w1 w2:World} {o o1:Nat→Int} (h:Keep (fun i=>tMine (o i)) w w1) (ha:Ag w o o1) (k:Keep (fun i=>T (o1 i)) w1 w2):Keep (fun i=>tMine (o i)) w w2:=
 h.trans k fun j hj hh=>by rw [ha j hj] at hh; exact fun e=>ht (e ▸ hh)
structure LOk (S:ES) (u back:Int) (cl s:List Int):Prop where
 sp:LSpec (entS S) (arGet S.ar S.bad) u back cl
 rs:∀x∈entS S,x.rs.length≤1048576
 cf:(arGet S.ar S.bad).length≤1048576
 wd:(words S.ar.cs).length≤8796093022208
 ac:S.ar.cs.length≤8796093022208
 lg:S.log.length≤1099511627776
 cll:cl.length≤1048576
 go:cl≠[]→Askd (entS S) cl 0∧s=shr (entS S) cl cl.length∧s≠[]∧(∀x∈s,Wi S.nv x)∧0≤back∧back≤S.L.length∧freeA S.nv (upto back S.R) (s.headD 0)=0
theorem learn9 {w : World} {b : Nat} {o : Nat → Int} {h : Hs} {S : ES} (hR : Rp noEx w b o h S) (hW : WfS S) (hc : S.clash = true) {u back : Int} {cl s : List Int} (hL : LOk S u back cl s) :
    Calls Tryz.prog 13 #[Pt b] w fun e w' =>
      (cl = [] ∧ e = .returned (.tuple #[.slice none 0 0, I (-1), I 0]) ∧ Nx tMine noEx w b o h (deadS S) w') ∨
      (cl ≠ [] ∧ ∃ p c o' h', e = .returned (.tuple #[.slice p s.length c, I back, I 0]) ∧ Own w' 3 1 p s.length c (s.map I) ∧ (∀ j, ob p j → w.heap.size ≤ j ∧ o' j = -9) ∧ Rp noEx w' b o' h' (learnT S back s) ∧ Ag w o o' ∧ Keep (fun i => tMine (o i)) w w') := by
  refine (V13_calls (some ⟨b, 0, none⟩) w (fun v w' => (cl = [] ∧ v = .tuple #[.slice none 0 0, I (-1), I 0] ∧ Nx tMine noEx w b o h (deadS S) w') ∨
      (cl ≠ [] ∧ ∃ p c o' h', v = .tuple #[.slice p s.length c, I back, I 0] ∧ Own w' 3 1 p s.length c (s.map I) ∧ (∀ j, ob p j → w.heap.size ≤ j ∧ o' j = -9) ∧ Rp noEx w' b o' h' (learnT S back s) ∧ Ag w o o' ∧ Keep (fun i => tMine (o i)) w w')) ?_).mono fun e w' ⟨v, he, hk⟩ => ?_
  rotate_left
  · rcases hk with ⟨a, hv, hk⟩ | ⟨a, p, c, o', h', hv, hk⟩
    · exact Or.inl ⟨a, by rw [he, hv], hk⟩
    · exact Or.inr ⟨a, p, c, o', h', by rw [he, hv], hk⟩
  unfold V13
  have hnv := hR.nv
  have hsm := hR.tr.small
  have mineb : ∀ j, One b j → tMine (o j) := fun j hj => by
    rw [show j = b from hj, hR.selfO]
    show (-1 : Int) ≠ -9
    decide
  refine nn_of (ldB_of (x := S.clash) (by rw [add_mk]; exact hR.self.cell 10) ?_)
  rw [hc]
  refine pif_f rfl (nn_of ?_)
  rw [add_mk, add_mk]
  refine st_of hR.self (by simp) rfl fun w1 hB1 k1 z1 => ?_
  have hR1 := hR.setSelf (hd := S.head) (r := S.rest) (c := false) (d := S.dead) (x := S.bad) k1 hB1 z1
  have kk1 : Keep (fun i => tMine (o i)) w w1 := k1.mono fun j _ hj => mineb j hj
  refine cl_of ok52 (entries41 hR1 (by have := hL.wd; show (words S.ar.cs).length ≤ _; omega)) fun e w2 ⟨tp, tc, he, hE2, hEf, k2⟩ => ⟨tp, _, tc, he, nn_of ?_⟩
  have esE : entS { S with head := S.head, rest := S.rest, clash := false, dead := S.dead, bad := S.bad } = entS S := rfl
  rw [esE] at hE2
  rw [esE]
  have eel : (entS S).length ≤ 1048576 := by unfold entS; rw [List.length_map]; omega
  have k2d := k2.drew
  have hR2 := hR1.keep0 k2d
  refine ldP_of (x := some ⟨h.st, 0, none⟩) (by rw [add_mk]; exact hR2.self.cell 1) (nn_of (ldI_of (x := S.bad) (by rw [add_mk]; exact hR2.self.cell 12) ?_))
  refine cl_of ok53 (Arn.get42 hR2.ar (by have := hL.wd; show (words S.ar.cs).length ≤ _; omega) S.bad) fun e w3 ⟨v, he, hgot⟩ => ?_
  obtain ⟨cp, cc, cok, rfl, hO3, hcf, k3⟩ := got_get hgot
  refine ⟨cp, _, cc, cok, he, ?_⟩
  have k23 := k2d.then0 k3
  have hE3 : RdE w3 tp (entS S).length (entS S) := (hE2.keep0 (Keep.refl None w2).drew).keep0 k3
  refine cl_of ok54 (Learn.learn20 hE3 eel hL.rs (own_rdl hO3) hL.cf) fun e w4 ⟨v, he, hLn⟩ => ?_
  obtain ⟨u', back', gp, gn, gc, cl', rfl, hsp', hO4, hgf, k4⟩ := hLn
  obtain ⟨rfl, rfl, rfl⟩ := hL.sp.uniq hsp'
  refine ⟨gp, gn, gc, back, u, he, ?_⟩
  have k24 := k23.then0 k4
  have hR4 := hR1.keep0 k24
  have hgn := own_len hO4
  by_cases hcl : cl = []
  · have hgn0 : gn = 0 := by rw [← hgn, hcl]; rfl
    refine pif_t (by rw [hgn0]; rfl) (nn_of ?_)
    rw [add_mk, add_mk]
    refine st_of hR4.self (by simp) rfl fun w5 hB5 k5 z5 => ?_
    have hR5 := hR4.setSelf (hd := S.head) (r := S.rest) (c := false) (d := true) (x := S.bad) k5 hB5 z5
    refine nn_of ⟨_, by rw [add_mk]; exact hR5.self.cell 7, ?_⟩
    refine noteM hR5 (dr := false) (cs := []) ⟨rfl, fun i x hx => by simp at hx⟩ (Nat.zero_le _) hL.lg fun w6 hN => ⟨rfl, Or.inl ⟨hcl, rfl, ?_⟩⟩
    obtain ⟨o6, h6, r6, a6, k6, e6⟩ := hN
    refine ⟨o6, h6, r6, ?_, ?_, e6⟩
    · have := k24.size
      exact fun j hj => a6 j (by omega)
    · exact ((kk1.then0 k24).trans k5 fun j _ hh => mineb j hh).trans k6 fun j _ hh => by rcases hh with hh | hh | hh <;> (intro e; omega)
  · obtain ⟨hask, hs, hsne, hswi, hb0, hbl, hfr⟩ := hL.go hcl
    have hgn1 : ¬ (gn : Int) = 0 := by
      have := List.length_pos_iff.2 hcl
      omega
    refine pif_f (by simpa using hgn1) ?_
    have hE4 : RdE w4 tp (entS S).length (entS S) := hE3.keep0 k4
    have hrdc := own_rdl hO4
    have hcll := hL.cll
    refine cl_of ok55 (Learn.shrink16 hE4 eel hL.rs hrdc (by omega)) fun e w7 ⟨v, he, hSh⟩ => ?_
    obtain ⟨us, sp, sn, sc, L, rfl, hau, hO7, hsf, hLs, _, k7⟩ := hSh
    have hus := hau.unique hask
    have eL : L = s := by rw [hLs hus, hs]
    subst eL
    have hsl := own_len hO7
    subst hsl
    refine ⟨sp, L.length, sc, us, he, ?_⟩
    have k27 := k24.then0 k7
    have hR7 := hR1.keep0 k27
    have z27 := k27.size
    have hs9 : ∀ j, ob sp j → o j = -9 := fun j hj => hR.nrm j (by have := hsf j hj; have := k24.size; omega)
    have hsnew : ∀ j, ob sp j → w.heap.size ≤ j := fun j hj => by have := hsf j hj; have := k24.size; omega
    have hsll : L.length ≤ 1048576 := by
      have := Learn.shr_len (entS S) cl cl.length
      rw [hs]; omega
    refine nn_of ⟨_, by rw [add_mk]; exact hR7.self.cell 7, ?_⟩
    refine noteM hR7 (dr := false) (own_rdl hO7) (by omega) hL.lg fun w8 hN8 => ⟨rfl, ?_⟩
    obtain ⟨o8, h8, r8, a8, k8, e8, n8⟩ := hN8.nine (by intro hh; rcases hh with hh | hh | hh <;> omega)
    obtain ⟨hO8, hs8⟩ := n8 hO7 hs9
    have kk7 : Keep (fun i => tMine (o i)) w w7 := kk1.then0 k27
    have z17 : w.heap.size ≤ w7.heap.size := by omega
    have a08 : Ag w o o8 := fun j hj => a8 j (by omega)
    have kk8 := keep_nine (T := tNote) (o1 := o) (by intro hh; rcases hh with hh | hh | hh <;> omega) kk7 (Ag.refl _ _) k8
    have z8 := k8.size
    refine nn_of (ldP_of (x := some ⟨h8.st, 0, none⟩) (by rw [add_mk]; exact r8.self.cell 1) ?_)
    refine cl_of ok45 (putA r8 (own_rdl hO8) hO8.news (by omega) (fun j hj _ hh => by rw [hs8 j hj] at hh; exact absurd hh (by decide)) (fun x hx => wi_fl hnv (hswi x hx)) (by have := hL.wd; show (words S.ar.cs).length + _ + 1 ≤ _; omega) (by have := hL.ac; show S.ar.cs.length + 1 ≤ _; omega) true) fun e w9 ⟨he, hN9⟩ => ⟨_, _, he, ?_⟩
    obtain ⟨o9, h9, r9, a9, k9, e9, n9⟩ := hN9.nine (by decide)
    obtain ⟨hO9, hs9'⟩ := n9 hO8 hs8
    have z9 := k9.size
    have a09 : Ag w o o9 := a08.trans a9 (by omega)
    have kk9 := keep_nine (T := tAr) (by decide) kk8 a08 k9
    refine cl_of ok56 (clone40 (own_rdl hO9) (by omega)) fun e w10 ⟨v, he, kp, kc, hv, hO10, hkn, k10⟩ => ?_
    subst hv
    refine ⟨kp, L.length, kc, he, ?_⟩
    have z10 := k10.size
    refine alc_at fun b48 w11 hb48 hB11 k11 => ?_
    have z11 := k11.size
    have k911 := k10.then0 k11
    have r11 := r9.keep0 k911
    have hkl := hO10.lt
    obtain ⟨o11, h11, r11', t11, hbk, hbo, est, ebk⟩ := r11.addHeld (bb := b48) (x := (kp, L.length, kc)) (d := newHd S L) hB11 (r9.nrm b48 (by omega)) (own_rdl (hO10.keep0 k11)) (fun j hj => ⟨r9.nrm j (hkn j hj), by have := hkl j hj; omega, by have := hkl j hj; omega⟩)
      (fun i ids hi k hk => by
        obtain ⟨d, hd, _⟩ := hW.w1 i k ids hi hk
        exact (List.getElem?_eq_some_iff.1 hd).1) hW.sh hW.le
    have hbk : h11.hb S.H.length = b48 := hbk
    have a11 : Ag w9 o9 o11 := fun j hj => by
      rcases t11 j with h1 | h1 | h1
      · exact h1
      · omega
      · have := hkn j h1; omega
    have a0' : Ag w o o11 := a09.trans a11 (by omega)
    have hO11 := hO9.keep0 k911
    have hs11 : ∀ j, ob sp j → o11 j = -9 := fun j hj => by rw [a11 j (hO9.lt j hj)]; exact hs9' j hj
    have kk11 := kk9.then0 k911
    have hPL := pushLe r11' (k := S.H.length) (by have := hW.lel; exact this)
      (K := fun w14 => jn (σ := Unit) (fun k55 =>
        pif (decide ((L.length : Int) > 1)) (
          ixA sp L.length 0 1 fun p58 =>
          ldI .i64 (World.drew w14) p58 fun x59 =>
          (0 : Int) ≤ 1 ∧ 1 ≤ (L.length : Int) ∧
          Vc.cl Tryz.prog 57 [.slice (slA sp sc (Int.toNat 1) 1) (L.length - (Int.toNat 1)) (sc - (Int.toNat 1)), .func (.func 58) #[Pt b] #[]] (World.drew w14) fun e61 w16 => ∃ x60 : Int, e61 = Ending.returned (.int .i64 x60) ∧
          (
            ldI .i64 w16 p58 fun x62 =>
            ((.int .i64 x62 : Value) = .int .i64 x59)) ∧
          Vc.cl Tryz.prog 48 [Pt b, Pt b48, .int .i64 x59, .int .i64 x60] w16 fun e63 w17 => e63 = Ending.returned (.tuple #[]) ∧
          k55 (()) w17) (
          k55 (()) w14)) fun s56 w15 => match s56 with
      | (_) =>
      Vc.cl Tryz.prog 59 [Pt b, .int .i64 back] w15 fun e65 w18 => e65 = Ending.returned (.tuple #[]) ∧
      ixA sp L.length 0 1 fun p67 =>
      ldI .i64 w18 p67 fun x68 =>
      Vc.cl Tryz.prog 60 [Pt b, .int .i64 x68, Pt b48] w18 fun e69 w19 => e69 = Ending.returned (.tuple #[]) ∧
      ((cl = [] ∧ (Value.tuple #[.slice sp L.length sc, .int .i64 back, .int .i64 0]) = .tuple #[.slice none 0 0, I (-1), I 0] ∧ Nx tMine noEx w b o h (deadS S) w19) ∨
      (cl ≠ [] ∧ ∃ p c o' h', (Value.tuple #[.slice sp L.length sc, .int .i64 back, .int .i64 0]) = .tuple #[.slice p L.length c, I back, I 0] ∧ Own w19 3 1 p L.length c (L.map I) ∧ (∀ j, ob p j → w.heap.size ≤ j ∧ o' j = -9) ∧ Rp noEx w19 b o' h' (learnT S back L) ∧ Ag w o o' ∧ Keep (fun i => tMine (o i)) w w19)))
      fun w14 hN14 => ?_
    · rw [hbk] at hPL
      exact hPL
    obtain ⟨o14, h14, r14, a14, k14, e14, n14⟩ := hN14.nine (by intro hh; rcases hh with hh | hh <;> omega)
    obtain ⟨hO14, hs14⟩ := n14 hO11 hs11
    have z14 := k14.size
    have a014 : Ag w o o14 := a0'.trans a14 (by omega)
    have kk14 := keep_nine (T := tLe) (by intro hh; rcases hh with hh | hh <;> omega) kk11 a0' k14
    have hbk14 : h14.hb S.H.length = b48 := by rw [e14]; exact hbk
    have eS : ({ (putAr (noteS { S with head := S.head, rest := S.rest, clash := false, dead := S.dead, bad := S.bad } false L) L) with H := S.H ++ [newHd S L], learnts := S.learnts ++ [S.H.length] } : ES) = heldS S L := rfl
    have r14' : Rp noEx w14 b o14 h14 (heldS S L) := r14
    obtain ⟨x0, xs, exs⟩ : ∃ x0 xs, L = x0 :: xs := by
      cases L with
      | nil => exact absurd rfl hsne
      | cons x0 xs => exact ⟨x0, xs, rfl⟩
    have hx0 : L[0]? = some x0 := by rw [exs]; rfl
    have ehd : L.headD 0 = x0 := by rw [exs]; rfl
    have hdK : (heldS S L).H[S.H.length]? = some (newHd S L) := by
      show (S.H ++ [newHd S L])[S.H.length]? = _
      rw [List.getElem?_append_right (Nat.le_refl _), Nat.sub_self]; rfl
    have lpos : 0 < L.length := by rw [exs]; simp
    refine ⟨fun _ W => ∃ o1 h1, Rp noEx W b o1 h1 (eyesS S L) ∧ Own W 3 1 sp L.length sc (L.map I) ∧ (∀ j, ob sp j → o1 j = -9) ∧ Ag w o o1 ∧ Keep (fun i => tMine (o i)) w W ∧ h1.hb S.H.length = b48, ?_, ?_⟩
    · refine pif_of (fun hq => ?_) fun hq => ?_
      · have hq : 1 < L.length := by have : (1 : Int) < (L.length : Int) := by simpa using hq
                                     omega
        have kd : Keep None w14 w14.drew := (Keep.refl _ _).drew
        have rd := r14'.keep0 kd
        have hOd := hO14.keep0 kd
        have hRdd := own_rdl hOd
        refine hRdd.ix (i := 0) lpos fun a x hx ha => ldI_of ha ⟨by omega, by omega, ?_⟩
        have : x = x0 := by rw [hx0] at hx; injection hx with hx; exact hx.symm
        subst this
        have hdrop : RdL w14.drew (slA sp sc (Int.toNat 1) 1) (L.length - (Int.toNat 1)) (L.drop 1) := Lits.RdL.drop hRdd hq hO14.le.1
        have exs2 : L.drop 1 = xs := by rw [exs]; rfl
        have etl : L.tail = xs := by rw [exs]; rfl
        have hxsne : L.drop 1 ≠ [] := fun e => by
          have := congrArg List.length e
          rw [List.length_drop] at this; simp only [List.length_nil] at this; omega
        have hmx : maxL S (L.drop 1) ∈ L := (List.drop_sublist 1 L).subset (maxL_mem S hxsne)
        refine cl_of ok57 (max45 rd hdrop hxsne (by show L.length - 1 ≤ _; omega) fun y hy => wi_fl hnv (hswi y ((List.drop_sublist 1 L).subset hy))) fun e w16 ⟨he, k16⟩ => ⟨_, he, ldI_of (k16.cell ha fun h => h) rfl, ?_⟩
        have emx : maxL (heldS S L) (L.drop 1) = maxL S L.tail := by rw [exs2, etl]; rfl
        rw [emx]
        have r16 := rd.keep0 k16
        have hx0w : Wi S.nv x := hswi x (List.mem_of_getElem? hx0)
        have hmw : Wi S.nv (maxL S L.tail) := by rw [etl, ← exs2]; exact hswi _ hmx
        have h28 := watch28 r16 hdK (a := x) (c := maxL S L.tail) hx0w hmw (fun i ids hi => by have := hW.len (i := i) (ids := ids) hi; have := hW.cl; omega) (fun hh => hh) (fun hh => hh)
        rw [hbk14] at h28
        refine cl_of ok48 h28 fun e w17 ⟨he, hN17⟩ => ⟨he, ?_⟩
        have kd16 := kd.then0 k16
        obtain ⟨o17, h17, r17, a17, k17, e17, n17⟩ := hN17.nine (by intro hh; rcases hh with hh | hh | hh <;> omega)
        obtain ⟨hO17, hs17⟩ := n17 (hOd.keep0 k16) hs14
        have zz := kd16.size
        refine ⟨o17, h17, ?_, hO17, hs17, a014.trans a17 (by omega), keep_nine (T := tWat) (by intro hh; rcases hh with hh | hh | hh <;> omega) (kk14.then0 kd16) a014 k17, by rw [e17]; exact hbk14⟩
        have : eyesS S L = watchS (heldS S L) S.H.length (newHd S L) x (maxL S L.tail) := by unfold eyesS; rw [if_pos hq, ehd]
        rw [this]; exact r17
      · have hq : ¬ 1 < L.length := by have : ¬ (1 : Int) < (L.length : Int) := by simpa using hq
                                       omega
        have : eyesS S L = heldS S L := by unfold eyesS; rw [if_neg hq]
        exact ⟨o14, h14, by rw [this]; exact r14', hO14, hs14, a014, kk14, hbk14⟩
    rintro ⟨⟩ w15 ⟨o15, h15, r15, hO15, hs15, a15, kk15, hbk15⟩
    dsimp only
    have z15 := kk15.size
    have eyR : (eyesS S L).R = S.R ∧ (eyesS S L).L = S.L ∧ (eyesS S L).nv = S.nv ∧ (eyesS S L).H.length = S.H.length + 1 ∧ ∃ d, (eyesS S L).H[S.H.length]? = some d ∧ d.at_ = atN S := by
      have hl1 : (S.H ++ [newHd S L]).length = S.H.length + 1 := by rw [List.length_append]; rfl
      unfold eyesS
      split
      · refine ⟨rfl, rfl, rfl, by show ((S.H ++ [newHd S L]).set _ _).length = _; rw [List.length_set, hl1], _, List.getElem?_set_self (by show _ < (S.H ++ [newHd S L]).length; omega), rfl⟩
      · exact ⟨rfl, rfl, rfl, hl1, _, hdK, rfl⟩
    obtain ⟨q1, q2, q3, q4, dk, hdk, hdat⟩ := eyR
    refine cl_of ok59 (cut47 r15 hb0 (by rw [q2]; exact hbl)) fun e w18 ⟨he, hN18⟩ => ⟨he, ?_⟩
    obtain ⟨o18, h18, r18, a18, k18, e18, n18⟩ := hN18.nine (by intro hh; rcases hh with hh | hh | hh <;> omega)
    obtain ⟨hO18, hs18⟩ := n18 hO15 hs15
    have kk18 := keep_nine (T := tPutE) (by intro hh; rcases hh with hh | hh | hh <;> omega) kk15 a15 k18
    have a018 : Ag w o o18 := a15.trans a18 z15
    have z18 := k18.size
    refine (own_rdl hO18).ix (i := 0) lpos fun a x hx ha => ldI_of ha ?_
    have : x = x0 := by rw [hx0] at hx; injection hx with hx; exact hx.symm
    subst this
    have hx0w : Wi S.nv x := hswi x (List.mem_of_getElem? hx0)
    have hfree : freeA (cutS (eyesS S L) back).nv (cutS (eyesS S L) back).R x = 0 := by
      show freeA (eyesS S L).nv (upto back (eyesS S L).R) x = 0
      rw [q1, q3, ← ehd]; exact hfr
    have h48 := put48 r18 (k := S.H.length) (d := dk) hdk (by rw [hdat]; unfold atN; omega) (l := x) (by have := hx0w.2.1; omega) hfree
    rw [show h18.hb S.H.length = b48 by rw [e18]; exact hbk15] at h48
    refine cl_of ok60 h48 fun e w19 ⟨he, hN19⟩ => ⟨he, Or.inr ⟨hcl, ?_⟩⟩
    obtain ⟨o19, h19, r19, a19, k19, e19, n19⟩ := hN19.nine (by intro hh; rcases hh with hh | hh | hh <;> omega)
    obtain ⟨hO19, hs19⟩ := n19 hO18 hs18
    refine ⟨sp, sc, o19, h19, rfl, hO19, fun j hj => ⟨hsnew j hj, hs19 j hj⟩, ?_, a018.trans a19 (by omega), keep_nine (T := tPutE) (by intro hh; rcases hh with hh | hh | hh <;> omega) kk18 a018 k19⟩
    have : learnT S back L = putS (cutS (eyesS S L) back) x dk.at_ := by unfold learnT; rw [ehd, hdat]
    rw [this]; exact r19
end Go.Proofs.YtmhjehodfggleaaGreat.Eng

/- Slices in memory: one taken out; the same clause. -/

set_option linter.unusedVariables false
set_option linter.unusedSimpArgs false
set_option linter.unusedSectionVars false
set_option maxRecDepth 100000
namespace Go.Proofs.YtmhjehodfggleaaGreat.Eng
open Go Go.Proofs.YtmhjehodfggleaaGreat.Vc Go.Proofs.YtmhjehodfggleaaGreat.T
open Go.Proofs.YtmhjehodfggleaaGreat.Apart (RdL own_rdl wrap_nat getE own_len take_snoc Sl sv New LL)
open Go.Proofs.YtmhjehodfggleaaGreat.Lits (fl fl_iff Ans ans_of formedP idx idx_range idx_inj indexP Td)
open Go.Proofs.YtmhjehodfggleaaGreat.Arn (Ar AR words off cw Got)
open Go.Proofs.YtmhjehodfggleaaGreat.Trail (TI Tr St valA levA reaA ownB Moved TLaid above upto freeA implA Open ent)
open Go.Proofs.YtmhjehodfggleaaGreat.Learn (En RdE LSpec Askd shr Learnt Shrunk)
theorem app_room {P:Program} {w:World} {t ty e:TypeId} {sz B:Nat} {z:Value} {g:Nat} {n c:Nat} {xs:List Value} {a:Addr} {m mc:Nat} {news:List Value}
  {K:Option Addr→Nat→Nat→World→Prop}
  (ht:P.underlying t=some (.slice e)) (hi0:(P.info? e).map (fun i=>(i.zero,i.size,i.bytes))=some (some z,sz,B))
  (hO:Own w e sz (some ⟨g,0,none⟩) n c xs) (hl:news.length=m*sz) (hnews:∀j u,news[j]?=some u→w.cell? (a.add j)=some u) (h1:∀u∈news,u.oneCell'=true) (hroom:n+m≤c)
  (hk:∀w',Own w' e sz (some ⟨g,0,none⟩) (n+m) c (xs++news)→Keep (One g) w w'→K (some ⟨g,0,none⟩) (n+m) c w') :
  ∃(p':Option Addr) (n' c':Nat),∃w':World,(Builtin.append_ #[t,t] ty #[.slice (some ⟨g,0,none⟩) n c,.slice (some a) m mc]).run P w=.ok (.slice p' n' c') w'∧K p' n' c' w':=by
 obtain ⟨i,hi,hi'⟩:=Option.map_eq_some_iff.1 hi0
 simp only [Prod.mk.injEq] at hi'
 obtain ⟨hz,rfl,rfl⟩:=hi'
 have hlen0:=hO.len
 rcases hO with ⟨h,_⟩ | ⟨g',cs,hp,hB,hnc,hcm,hcs,rfl⟩
 ·cases h
 cases hp
 have hxs:(cs.take (n*i.size)).length=n*i.size:=hlen0
 have hle:(n+m)*i.size≤c*i.size:=Nat.mul_le_mul_right _ hroom
 rw [Nat.add_mul] at hle
 have hfit:n*i.size+news.length≤cs.toArray.size:=by rw [hl,List.size_toArray,hcs]; exact hle
 have hr:=run_append_room (P:=P) w t ty e i ht hi g n c cs.toArray hB a m mc news hl hnews h1 hroom hfit
 refine ⟨_,_,_,_,hr,hk _ (Or.inr ⟨g,cs.take (n*i.size)++news++cs.drop (n*i.size+news.length),rfl,setRow_heap w g cs.toArray _ e _ hB,hroom,hcm,?_,?_⟩) ⟨rfl,rfl,rfl,by simp,fun k _ hk'=>setRow_other w g k _ (fun e=>hk' e)⟩⟩
 ·simp only [List.length_append,hxs,List.length_drop,hl]
  omega
 ·have hlen:(cs.take (n*i.size)++news).length=(n+m)*i.size:=by rw [List.length_append,hxs,hl,Nat.add_mul]
  rw [←hlen]
  exact List.take_left
theorem clearH {w:World} {xs:List Value} {k m n c cc:Nat} {b:Nat} {K:World→Prop} (h:Own w 110 1 (some ⟨b,0,none⟩) k c xs) (hm:k+m≤c) {ty:TypeId}
  (hK:∀w',Own w' 110 1 (some ⟨b,0,none⟩) k c xs→Keep (One b) w w'→K w') :
  ∃w':World,(Builtin.clear_ #[101] ty #[.slice (some ⟨b,k,none⟩) m cc]).run Tryz.prog w=.ok (.tuple #[]) w'∧K w':=by
 rcases h with ⟨h,_⟩ | ⟨b',cs,hp,hB,h1,h2,h3,rfl⟩
 ·cases h
 cases hp
 have hz:∀w,(zeroValue 110).run Tryz.prog w=.ok (.pointer none) w:=fun w=>zeroT_spec (by kernel_rfl) w
 by_cases hm0:m=0
 ·subst hm0
  exact ⟨w,by simp [Builtin.clear_,run_underlying Tryz.underlying101],hK w (Or.inr ⟨b,cs,rfl,hB,h1,h2,h3,rfl⟩) (Keep.refl _ _)⟩
 refine ⟨_,Lib.run_clear_slice w 101 110 ty (.pointer none) Tryz.underlying101 hz rfl rfl b k m cc (by omega) (fun j hj=>?_) (fun j hj=>hB.frozen _),?_⟩
 ·rw [hB.cell,List.getElem?_eq_getElem (by omega)]; rfl
 ·obtain ⟨cs',q1,q2,q3,q4⟩:=Lits.setCells_blk (List.replicate m (.pointer none)) b k w cs hB
  refine hK _ (Or.inr ⟨b,cs',rfl,q1,by omega,h2,by omega,?_⟩) q4
  rw [Nat.mul_one,q3]
theorem delete39 {w:World} {p:Option Addr} {n c:Nat} {f:Nat→Value} {ks:List Nat} (hf:∀k,(f k).oneCell'=true) (hO:Own w 110 1 p n c (ks.map f)) {i:Nat} (hi:i<n) (hn:n≤17592186044416) :
  Calls Tryz.prog 110 #[.slice p n c,I i,I ((i:Int)+1)] w fun e w'=>e=.returned (.slice p (n - 1) c)∧Own w' 110 1 p (n - 1) c ((ks.eraseIdx i).map f)∧Keep (ob p) w w':=by
 refine (V110_calls p n c i ((i:Int)+1) w (fun v w'=>v=.slice p (n - 1) c∧Own w' 110 1 p (n - 1) c ((ks.eraseIdx i).map f)∧Keep (ob p) w w') ?_).mono fun e w' ⟨v,he,hv,hk⟩=>⟨by rw [he,hv],hk⟩
 unfold V110
 have hle:=hO.le
 have hkl:ks.length=n:=by have:=hO.len; simpa using this
 refine ⟨by omega,by omega,by omega,by omega,by omega,by omega,pif_f ?_ ⟨by omega,by omega,by omega,by omega,?_⟩⟩
 ·have:¬(i:Int)=(i:Int)+1:=by omega
  simpa using this
 have kd:Keep None w w.drew:=(Keep.refl _ _).drew
 have hO':=hO
 rcases hO with ⟨_,h0,_,_⟩ | ⟨g,cs,rfl,hB,h1,h2,h3,h4⟩
 ·omega
 have hOd:=hO'.keep0 kd
 have hcut:=hOd.cut (m:=i) (by omega)
 have e1:Int.toNat ((i:Int)+1)=i+1:=by omega
 rw [Lits.slA_zero,Int.toNat_natCast,Nat.sub_zero,Nat.sub_zero,e1]
 have hsl:∃a,slA (some (⟨g,0,none⟩:Addr)) c (i+1) 1=some a∧∀j u,((ks.map f).drop (i+1))[j]?=some u→w.drew.cell? (a.add j)=some u:=by
  unfold slA
  split
  ·rename_i hc
   refine ⟨_,rfl,fun j u hu=>?_⟩
   have:=(List.getElem?_eq_some_iff.1 hu).1
   rw [List.length_drop,List.length_map] at this
   omega
  ·refine ⟨_,rfl,fun j u hu=>?_⟩
   rw [List.getElem?_drop] at hu
   show w.drew.cell? (((⟨g,0,none⟩:Addr).add ((i+1)*1)).add j)=_
   rw [add_mk,add_mk,Nat.mul_one,Nat.zero_add]
   have hj:=(List.getElem?_eq_some_iff.1 hu).1
   rw [List.length_map] at hj
   rw [hOd.cell _ (by omega)]
   exact hu
 obtain ⟨a,ha,hcells⟩:=hsl
 rw [ha]
 refine app_room (e:=110) (sz:=1) (z:=.pointer none) (B:=8) Tryz.underlying101 (by kernel_rfl) hcut (news:=(ks.map f).drop (i+1)) (by rw [List.length_drop,List.length_map]; omega) hcells (fun u hu=>?_) (by omega) fun w1 hO1 k1=>?_
 ·obtain ⟨k,_,rfl⟩:=List.mem_map.1 (List.mem_of_mem_drop hu)
  exact hf k
 have en:i+(n - (i+1))=n - 1:=by omega
 rw [en] at hO1 ⊢
 refine ⟨by omega,by omega,by omega,by omega,?_⟩
 have exs:(ks.map f).take (i*1)++(ks.map f).drop (i+1)=(ks.eraseIdx i).map f:=by
  rw [Nat.mul_one,List.eraseIdx_eq_take_drop_succ,List.map_append,List.map_take,List.map_drop]
 rw [exs] at hO1
 have es2:slA (some (⟨g,0,none⟩:Addr)) c (Int.toNat ((n - 1:Nat):Int)) 1=some ⟨g,n - 1,none⟩:=by
  rw [Int.toNat_natCast]
  unfold slA
  rw [if_neg (by omega)]
  simp [add_mk]
 rw [es2,Int.toNat_natCast,Int.toNat_natCast]
 refine clearH hO1 (n:=n) (by omega) fun w2 hO2 k2=>⟨rfl,hO2,?_⟩
 exact (kd.none.trans k1 fun j _ hj=>⟨_,rfl,(show j=g from hj).symm⟩).trans k2 fun j _ hj=>⟨_,rfl,(show j=g from hj).symm⟩
section
variable {w:World} {p q:Option Addr} {n m c d:Nat} {xs ys:List Int}
theorem equal51 (hX : RdL w p n xs) (hY : RdL w q m ys) (hn : n ≤ 17592186044416) :
    Calls Tryz.prog 164 #[.slice p n c, .slice q m d] w fun e w' => e = .returned (.bool (decide (xs = ys))) ∧ Keep None w w' := by
  refine (V164_calls p n c q m d w (fun v w' => v = .bool (decide (xs = ys)) ∧ Keep None w w') ?_).mono fun e w' ⟨v, he, hv, hk⟩ => ⟨by rw [he, hv], hk⟩
  unfold V164
  have hx := hX.len
  have hy := hY.len
  refine pif_of (fun hq => ?_) fun hq => ?_
  · have hq : ¬ n = m := by have : ¬ (n : Int) = (m : Int) := by simpa using hq
                            omega
    refine ⟨?_, Keep.refl _ _⟩
    rw [decide_eq_false fun e => hq (by rw [← hx, ← hy, e])]
  have hq : n = m := by have : (n : Int) = (m : Int) := by simpa using hq
                        omega
  subst hq
  refine lp_of (fun s W => ∃ i : Nat, s.1 = (i : Int) ∧ i ≤ n ∧ xs.take i = ys.take i ∧ Keep None w W) (fun s _ => (n - s.1).toNat) ⟨0, rfl, Nat.zero_le _, rfl, Keep.refl _ _⟩ ?_
  rintro ⟨i', ⟨⟩⟩ W ⟨i, rfl, hi, ht, kW⟩
  dsimp only
  refine pif_of (fun hlt => ?_) fun hge => ?_
  · have hlt : i < n := by simpa using hlt
    rw [wrap_nat i (by omega)]
    have kd := kW.drew
    refine (hX.keep kd fun _ _ h => h).ix hlt fun a x hx ha => ldI_of ha ?_
    refine (hY.keep kd fun _ _ h => h).ix hlt fun a' y hy ha' => ldI_of ha' ?_
    refine pif_of (fun hq => ?_) fun hq => ?_
    · have hq : ¬ x = y := by simpa using hq
      refine ⟨?_, kd⟩
      rw [decide_eq_false fun e => hq (by rw [e, hy] at hx; injection hx with hx; exact hx.symm)]
    · have hq : x = y := by simpa using hq
      exact ⟨⟨i + 1, rfl, hlt, by rw [take_snoc hx, take_snoc hy, ht, hq], kd⟩, by omega⟩
  · have hge : i = n := by have : ¬ (i : Int) < (n : Int) := by simpa using hge
                           omega
    subst hge
    have h1 : xs.take i = xs := by rw [← hx, List.take_length]
    have h2 : ys.take i = ys := by rw [← hy, List.take_length]
    rw [h1, h2] at ht
    exact ⟨by rw [decide_eq_true ht], kW⟩
def sameB (xs ys:List Int):Bool:=(xs.all fl&&ys.all fl)&&(xs.all (fun x=>decide (x∈ys))&&ys.all (fun x=>decide (x∈xs)))
theorem same17 (hX:RdL w p n xs) (hY:RdL w q m ys) (hn:n≤17592186044416) (hm:m≤17592186044416) :
  Calls Tryz.prog 142 #[.slice p n c,.slice q m d] w fun e w'=>e=.returned (.bool (sameB xs ys))∧Keep None w w':=by
 refine (V142_calls p n c q m d w (fun v w'=>v=.bool (sameB xs ys)∧Keep None w w') ?_).mono fun e w' ⟨v,he,hv,hk⟩=>⟨by rw [he,hv],hk⟩
 unfold V142
 refine cl_of ok89 (Arn.sound50 hX hn) fun e w1 ⟨r,he,hr,k1⟩=>⟨r,he,?_⟩
 have all_of:∀{zs:List Int} {r:Bool},(r=true↔∀x∈zs,fl x=true)→zs.all fl=r:=fun {zs r} h=>by
  cases r with
  | true=>exact List.all_eq_true.2 (h.1 rfl)
  | false=>
   cases ha:zs.all fl with
   | false=>rfl
   | true=>exact absurd (h.2 (List.all_eq_true.1 ha)) (by decide)
 have ex:=all_of hr
 cases r with
 | false=>
  refine gd_f rfl (gd_f rfl (gd_f rfl (gd_f rfl ⟨?_,k1⟩)))
  unfold sameB; rw [ex]; rfl
 | true=>
  refine gd_t rfl (cl_of ok89 (Arn.sound50 (hY.keep k1 fun _ _ h=>h) hm) fun e w2 ⟨r2,he,hr2,k2⟩=>⟨r2,he,?_⟩)
  have ey:=all_of hr2
  have k12:=k1.then0 k2
  cases r2 with
  | false=>
   refine gd_f rfl (gd_f rfl (gd_f rfl ⟨?_,k12⟩))
   unfold sameB; rw [ex,ey]; rfl
  | true=>
   refine gd_t rfl (cl_of ok47 (Lits.tidyP (hX.keep k12 fun _ _ h=>h) hn) fun e w3 ⟨v,L1,he,hT1,p1,c1,hv,hO1,hn1,k3⟩=>?_)
   subst hv
   refine ⟨p1,L1.length,c1,he,?_⟩
   have k13:=k12.then0 k3
   refine gd_t rfl (cl_of ok47 (Lits.tidyP (hY.keep k13 fun _ _ h=>h) hm) fun e w4 ⟨v,L2,he,hT2,p2,c2,hv,hO2,hn2,k4⟩=>?_)
   subst hv
   refine ⟨p2,L2.length,c2,he,?_⟩
   have k14:=k13.then0 k4
   have hl1:=hT1.len
   refine gd_t rfl (cl_of ok164 (equal51 ((own_rdl hO1).keep k4 fun _ _ h=>h) (own_rdl hO2) (by show L1.length≤_; omega)) fun e w5 ⟨he,k5⟩=>⟨_,he,?_,k14.then0 k5⟩)
   have fx:=hr.1 rfl
   have fy:=hr2.1 rfl
   have key:decide (L1=L2)=(xs.all (fun x=>decide (x∈ys))&&ys.all (fun x=>decide (x∈xs))):=by
    rw [Bool.eq_iff_iff,decide_eq_true_iff,Bool.and_eq_true,List.all_eq_true,List.all_eq_true]
    constructor
    ·intro e
     refine ⟨fun x hx=>decide_eq_true ?_,fun x hx=>decide_eq_true ?_⟩
     ·have:=(hT1.mem x).2 ⟨hx,fx x hx⟩
      rw [e] at this
      exact ((hT2.mem x).1 this).1
     ·have:=(hT2.mem x).2 ⟨hx,fy x hx⟩
      rw [←e] at this
      exact ((hT1.mem x).1 this).1
    ·rintro ⟨h1,h2⟩
     exact hT1.uniq hT2 fun x _=>⟨fun hx=>of_decide_eq_true (h1 x hx),fun hx=>of_decide_eq_true (h2 x hx)⟩
   show Value.bool (cond (cond true true false) (decide (L1=L2)) false)=.bool (sameB xs ys)
   unfold sameB
   rw [ex,ey,key]
   rfl
end
end Go.Proofs.YtmhjehodfggleaaGreat.Eng

/- An Engine in memory: a learnt clause forgotten. -/

set_option linter.unusedVariables false
set_option linter.unusedSimpArgs false
set_option linter.unusedSectionVars false
set_option maxRecDepth 100000
namespace Go.Proofs.YtmhjehodfggleaaGreat.Eng
open Go Go.Proofs.YtmhjehodfggleaaGreat.Vc Go.Proofs.YtmhjehodfggleaaGreat.T
open Go.Proofs.YtmhjehodfggleaaGreat.Apart (RdL own_rdl wrap_nat getE own_len take_snoc Sl sv New LL)
open Go.Proofs.YtmhjehodfggleaaGreat.Lits (fl fl_iff Ans ans_of formedP idx idx_range idx_inj indexP Td)
open Go.Proofs.YtmhjehodfggleaaGreat.Arn (Ar AR words off cw Got)
open Go.Proofs.YtmhjehodfggleaaGreat.Trail (TI Tr St valA levA reaA ownB Moved TLaid above upto freeA implA Open ent)
open Go.Proofs.YtmhjehodfggleaaGreat.Learn (En RdE LSpec Askd shr Learnt Shrunk)
def rsB (ls:List Int) (x:En):Bool:=decide (0<x.rs.length)&&sameB x.rs ls
theorem reason66 {w:World} {b2 hb:Nat} {t:TypeId} {x:Sl} {a e0 e1:Int} {gone:Bool} {ls rs:List Int} {lit lev:Int} {q:Option Addr} {rn rc:Nat} (hB2:Blk w b2 [Pt hb] t) (hBh:Blk w hb [I a,sv x,I e0,I e1,.bool gone] 113) (hC:RdL w x.1 x.2.1 ls) (hE:RdL w q rn rs) (hl:ls.length≤1099511627776) (hr:rs.length≤1099511627776) :
  Calls Tryz.prog 141 #[.agg #[I lit,I lev,.slice q rn rc],Pt b2] w fun e w'=>e=.returned (.bool (rsB ls ⟨lit,lev,rs⟩))∧Keep None w w':=by
 refine (V141_calls lit lev q rn rc ⟨b2,0,none⟩ w (fun v w'=>v=.bool (rsB ls ⟨lit,lev,rs⟩)∧Keep None w w') ?_).mono fun e w' ⟨v,he,hv,hk⟩=>⟨by rw [he,hv],hk⟩
 unfold V141
 have hcl:=hC.len
 have hel:=hE.len
 refine alc_at fun b w1 hb' hB1 k1=>?_
 have k1d:=k1.drew
 have hB1d:Blk w1.drew b _ 164:=hB1.keep0 (Keep.refl None w1).drew
 have c2:∀{K:Option Addr→Nat→Nat→Prop},K q rn rc→ldC w1.drew ((⟨b,0,none⟩:Addr).add 2) K:=fun hK=>by
  rw [add_mk]; exact ldC_of (hB1d.cell 2) hK
 refine c2 ?_
 by_cases hpos:0<rn
 ·have hd:decide ((rn:Int)>0)=true:=decide_eq_true (by omega)
  rw [hd]
  refine gd_t rfl (c2 (gd_t rfl (ldP_of (x:=some ⟨hb,0,none⟩) ((hB2.keep0 k1d).cell 0) (gd_t rfl (nn_of (gd_t rfl ?_))))))
  refine ldC_of (x:=x.1) (n:=x.2.1) (c:=x.2.2) (by rw [add_mk]; exact (hBh.keep0 k1d).cell 1) (gd_t rfl ?_)
  refine cl_of ok142 (same17 (hE.keep k1d fun _ _ h=>h) (hC.keep k1d fun _ _ h=>h) (by show rn≤_; omega) (by show x.2.1≤_; omega)) fun e w2 ⟨he,k2⟩=>⟨_,he,?_,k1d.then0 k2⟩
  unfold rsB
  rw [decide_eq_true (by show 0<rs.length; omega)]
  rfl
 ·have hd:decide ((rn:Int)>0)=false:=decide_eq_false (by omega)
  rw [hd]
  refine gd_f rfl (gd_f rfl (gd_f rfl (gd_f rfl (gd_f rfl ⟨?_,k1d⟩))))
  unfold rsB
  rw [decide_eq_false (by show ¬0<rs.length; omega)]
  rfl
def reasonB (S:ES) (d:Hd):Bool:=(entS S).any (rsB d.ls)
section
variable {ex:Nat→Prop} {w:World} {b:Nat} {o:Nat→Int} {h:Hs} {S:ES}
theorem reason36 (hR:Rp ex w b o h S) {k:Nat} {d:Hd} (hd:S.H[k]?=some d) (hdl:d.ls.length≤1099511627776) (hrs:∀x∈entS S,x.rs.length≤1048576) (hw:(words S.ar.cs).length≤17592186044416) :
  Calls Tryz.prog 107 #[Pt b,Pt (h.hb k)] w fun e w'=>e=.returned (.bool (reasonB S d))∧Keep None w w':=by
 refine (V107_calls (some ⟨b,0,none⟩) (some ⟨h.hb k,0,none⟩) w (fun v w'=>v=.bool (reasonB S d)∧Keep None w w') ?_).mono fun e w' ⟨v,he,hv,hk⟩=>⟨by rw [he,hv],hk⟩
 unfold V107
 refine alc_at fun b2 w1 hb2 hB2 k1=>?_
 have hR1:=hR.keep0 k1
 refine cl_of ok52 (entries41 hR1 hw) fun e w2 ⟨tp,tc,he,hE2,hEf,k2⟩=>⟨tp,_,tc,he,?_⟩
 have k12:=k1.then0 k2
 have hR2:=hR.keep0 k12
 have hB22:=hB2.keep0 k2
 obtain ⟨hBh,_,hC,_⟩:=hR2.held k d hd
 have hsm:=hR.tr.small
 have eel:(entS S).length≤1048576:=by unfold entS; rw [List.length_map]; omega
 have hidx:Calls Tryz.prog 163 #[.slice tp (entS S).length tc,.func (.func 141) #[] #[Pt b2]] w2 fun e w'=>∃v:Int,e=.returned (I v)∧decide (v≥0)=reasonB S d∧Keep None w2 w':=by
  refine (V163_calls tp (entS S).length tc (.func (.func 141) #[] #[Pt b2]) w2 (fun v w'=>∃x:Int,v=I x∧decide (x≥0)=reasonB S d∧Keep None w2 w') ?_).mono fun e w' ⟨v,he,x,hv,hk⟩=>⟨x,by rw [he,hv],hk⟩
  unfold V163
  refine lp_of (fun s W=>∃i:Nat,s.1=(i:Int)∧i≤(entS S).length∧((entS S).take i).any (rsB d.ls)=false∧Keep None w2 W) (fun s _=>((entS S).length - s.1).toNat) ⟨0,rfl,Nat.zero_le _,rfl,Keep.refl _ _⟩ ?_
  rintro ⟨i',⟨⟩⟩ W ⟨i,rfl,hi,ht,kW⟩
  dsimp only
  refine pif_of (fun hlt=>?_) fun hge=>?_
  ·have hlt:i<(entS S).length:=by simpa using hlt
   rw [wrap_nat i (by omega)]
   obtain ⟨x,hx⟩:=getE hlt
   refine (hE2.keep0 kW).ix hx fun a ⟨q,rn,rc,c0,c1,c2,hr⟩=>ldI_of c0 (ldI_of c1 (ldC_of c2 (Learn.clF_of ?_)))
   have hxr:=hrs x (List.mem_of_getElem? hx)
   refine cl_of ok141 (reason66 (lit:=x.lit) (lev:=x.lev) (rc:=rc) (hB22.keep0 kW) (hBh.keep0 kW) (hC.keep kW fun _ _ h=>h) hr hdl (by omega)) fun e w4 ⟨he,k4⟩=>⟨_,he,?_⟩
   have kk:=kW.then0 k4
   refine pif_of (fun hq=>⟨i,rfl,?_,kk⟩) fun hq=>⟨⟨i+1,rfl,hlt,?_,kk⟩,by omega⟩
   ·rw [decide_eq_true (by omega)]
    exact (List.any_eq_true.2 ⟨x,List.mem_of_getElem? hx,hq⟩).symm
   ·rw [take_snocN hx,List.any_append,ht]
    simpa using hq
  ·have hge:i=(entS S).length:=by
    have:¬(i:Int)<((entS S).length:Int):=by simpa using hge
    omega
   subst hge
   rw [List.take_length] at ht
   exact ⟨-1,rfl,by unfold reasonB; rw [ht]; rfl,kW⟩
 refine cl_of ok140 (R':=fun e w'=>e=.returned (.bool (reasonB S d))∧Keep None w2 w') ?_ fun e w3 ⟨he,k3⟩=>⟨_,he,rfl,k12.then0 k3⟩
 refine (V140_calls tp (entS S).length tc (.func (.func 141) #[] #[Pt b2]) w2 (fun v w'=>v=.bool (reasonB S d)∧Keep None w2 w') ?_).mono fun e w' ⟨v,he,hv,hk⟩=>⟨by rw [he,hv],hk⟩
 unfold V140
 exact cl_of ok163 hidx fun e w3 ⟨v,he,hv,k3⟩=>⟨v,he,by rw [hv],k3⟩
def decidedB (S:ES) (d:Hd):Bool:=d.ls.all (fun l=>decide (lvx S l=0))&&decide ((d.ls.filter fun l=>decide (0<vl S l)).length=1)
theorem decided37 (hR:Rp ex w b o h S) {k:Nat} {d:Hd} (hd:S.H[k]?=some d) (hdl:d.ls.length≤1099511627776) (hf:∀x∈d.ls,fl x=true) :
  Calls Tryz.prog 108 #[Pt b,Pt (h.hb k)] w fun e w'=>e=.returned (.bool (decidedB S d))∧Keep None w w':=by
 refine (V108_calls (some ⟨b,0,none⟩) (some ⟨h.hb k,0,none⟩) w (fun v w'=>v=.bool (decidedB S d)∧Keep None w w') ?_).mono fun e w' ⟨v,he,hv,hk⟩=>⟨by rw [he,hv],hk⟩
 unfold V108
 obtain ⟨hB,_,hC,_⟩:=hR.held k d hd
 have hcl:=hC.len
 refine nn_of (ldC_of (x:=(h.hl k).1) (n:=(h.hl k).2.1) (c:=(h.hl k).2.2) (by rw [add_mk]; exact hB.cell 1) ?_)
 refine lp_of (fun s W=>∃i:Nat,s.2.1=(i:Int)∧i≤d.ls.length∧s.1=(((d.ls.take i).filter fun l=>decide (0<vl S l)).length:Nat)∧(d.ls.take i).all (fun l=>decide (lvx S l=0))=true∧Keep None w W) (fun s _=>(d.ls.length - s.2.1).toNat) ⟨0,rfl,Nat.zero_le _,rfl,rfl,Keep.refl _ _⟩ ?_
 rintro ⟨cnt,i',⟨⟩⟩ W ⟨i,rfl,hi,hcnt,ha,kW⟩
 dsimp only at hcnt ⊢
 subst hcnt
 refine pif_of (fun hlt=>?_) fun hge=>?_
 ·have hlt:i<d.ls.length:=by
   have:(i:Int)<((h.hl k).2.1:Int):=by simpa using hlt
   omega
  rw [wrap_nat i (by omega)]
  obtain ⟨x,hx⟩:=getE hlt
  have hxf:=fl_iff.1 (hf x (List.mem_of_getElem? hx))
  have hcl2:((d.ls.take i).filter fun l=>decide (0<vl S l)).length≤d.ls.length:=Nat.le_trans (List.length_filter_le _ _) (by rw [List.length_take]; omega)
  refine ⟨fun s W'=>s.1=(((d.ls.take (i+1)).filter fun l=>decide (0<vl S l)).length:Nat)∧(d.ls.take (i+1)).all (fun l=>decide (lvx S l=0))=true∧Keep None w W',?_,?_⟩
  ·have kd:=kW.drew
   have hRW:=hR.keep0 kd
   refine (hC.keep kW fun _ _ h=>h).ix (by omega) fun a y hy ha'=>ldI_of ha' ?_
   have:y=x:=by rw [hx] at hy; injection hy with hy; exact hy.symm
   subst this
   have c2:∀{V:World},Rp ex V b o h S→∀{K:Option Addr→Prop},K (some ⟨h.T.t,0,none⟩)→ldP V ((⟨b,0,none⟩:Addr).add 2) K:=fun {V} hRV {K} hK=>by
    rw [add_mk]; exact ldP_of (hRV.self.cell 2) hK
   refine nn_of (c2 hRW ?_)
   refine cl_of ok103 (Trail.var52 y _ (by omega)) fun e w3 ⟨he,hw3⟩=>⟨_,he,?_⟩
   subst hw3
   have ev:(if 1≤y.natAbs∧y.natAbs≤1048576 then (y.natAbs:Int) else 0)=y.natAbs:=if_pos ⟨by omega,by omega⟩
   rw [ev]
   refine ⟨c2 hRW rfl,cl_of ok102 (hRW.tr.levelOf _ (by omega)) fun e w4 ⟨he,k4⟩=>⟨_,he,?_⟩⟩
   have k04:=kd.then0 k4
   have elv:levA S.nv S.R (y.natAbs:Int)=lvx S y:=rfl
   rw [elv]
   refine pif_of (fun hq=>?_) fun hq=>?_
   ·have hq:¬lvx S y=0:=by simpa using hq
    refine ⟨?_,k04⟩
    have:d.ls.all (fun l=>decide (lvx S l=0))=false:=by
     rw [List.all_eq_false]
     exact ⟨y,List.mem_of_getElem? hx,by simpa using hq⟩
    unfold decidedB; rw [this]; rfl
   ·have hq:lvx S y=0:=by simpa using hq
    have hall:(d.ls.take (i+1)).all (fun l=>decide (lvx S l=0))=true:=by
     rw [take_snocN hx,List.all_append,ha]; simpa using hq
    have hR4:=hR.keep0 k04
    refine hR4.trAt (hR4.val (by omega) fun w5 k5=>⟨_,rfl,?_⟩)
    have k05:=k04.then0 k5
    refine pif_of (fun hv=>⟨?_,hall,k05⟩) fun hv=>⟨?_,hall,k05⟩
    ·have hv:0<vl S y:=by simpa using hv
     rw [take_snocN hx,List.filter_append,List.length_append,List.filter_cons,if_pos (decide_eq_true hv)]
     exact wrap_nat _ (by omega)
    ·have hv:¬0<vl S y:=by simpa using hv
     rw [take_snocN hx,List.filter_append,List.length_append,List.filter_cons,if_neg (by simpa using hv)]
     rfl
  ·rintro ⟨c',⟨⟩⟩ W' ⟨h1,h2,h3⟩
   exact ⟨⟨i+1,rfl,hlt,h1,h2,h3⟩,by omega⟩
 ·have hge:i=d.ls.length:=by
   have:¬(i:Int)<((h.hl k).2.1:Int):=by simpa using hge
   omega
  subst hge
  rw [List.take_length] at ha ⊢
  refine ⟨?_,kW⟩
  unfold decidedB
  rw [ha,Bool.true_and]
  congr 1
  rw [Bool.eq_iff_iff,beq_iff_eq,decide_eq_true_iff]
  omega
end
end Go.Proofs.YtmhjehodfggleaaGreat.Eng

/- An Engine in memory: Forget and Model whole. -/

set_option linter.unusedVariables false
set_option linter.unusedSimpArgs false
set_option linter.unusedSectionVars false
set_option maxRecDepth 100000
namespace Go.Proofs.YtmhjehodfggleaaGreat.Eng
open Go Go.Proofs.YtmhjehodfggleaaGreat.Vc Go.Proofs.YtmhjehodfggleaaGreat.T
open Go.Proofs.YtmhjehodfggleaaGreat.Apart (RdL own_rdl wrap_nat getE own_len take_snoc Sl sv New LL)
open Go.Proofs.YtmhjehodfggleaaGreat.Lits (fl fl_iff Ans ans_of formedP idx idx_range idx_inj indexP Td)
open Go.Proofs.YtmhjehodfggleaaGreat.Arn (Ar AR words off cw Got)
open Go.Proofs.YtmhjehodfggleaaGreat.Trail (TI Tr St valA levA reaA ownB Moved TLaid above upto freeA implA Open ent)
open Go.Proofs.YtmhjehodfggleaaGreat.Learn (En RdE LSpec Askd shr Learnt Shrunk)
section
variable {ex:Nat→Prop} {w w':World} {b:Nat} {o:Nat→Int} {h:Hs} {S:ES}
theorem Rp.leTo (hR:Rp ex w b o h S) {g:Sl} {ks:List Nat} (kall:Keep (fun j=>tLe (o j)) w w') (hs:Blk w' b [I S.nv,Pt h.st,Pt h.T.t,sv h.oo,sv h.ll,sv h.ss,sv g,.iface 98 (Pt h.bk),I S.head,.bool S.rest,.bool S.clash,.bool S.dead,I S.bad] 106)
  (hO:Own w' 110 1 g.1 g.2.1 g.2.2 (ks.map fun k=>Pt (h.hb k))) (hg:∀j,ob g.1 j→o j=-7):Rp ex w' b o {h with le:=g} {S with learnts:=ks}:=by
 have nT:∀{t:Int},t≠-1→t≠-7→¬tLe t:=fun a b hh=>by rcases hh with h | h; exact a h; exact b h
 have z:=kall.size
 exact ⟨hs,hR.selfO,Rp.arK (h:=h) (S:=S) (T:=tLe) hR kall (nT (by decide) (by decide)),Rp.trK (h:=h) (S:=S) (T:=tLe) hR kall (nT (by decide) (by decide)),hR.trO,
  own_K (T:=tLe) hR.oo hR.ooO kall (nT (by decide) (by decide)),hR.ooO,own_K (T:=tLe) hR.out hR.outO kall (nT (by decide) (by decide)),hR.outO,hR.hhl,hR.lsl,
  Rp.innK (h:=h) (S:=S) (T:=tLe) hR kall (fun i hi=>⟨hi,nT (by omega) (by omega)⟩),Rp.innOK (h:=h) (S:=S) (T:=tLe) hR kall,
  own_K (T:=tLe) hR.sh hR.shO kall (nT (by decide) (by decide)),hR.shO,hO,hg,
  blk_K (T:=tLe) hR.bk hR.bkO kall (nT (by decide) (by decide)),hR.bkO,own_K (T:=tLe) hR.lg hR.lgO kall (nT (by decide) (by decide)),hR.lgO,hR.gll,
  Rp.glK (h:=h) (S:=S) (T:=tLe) hR kall (nT (by decide) (by decide)),Rp.heldK (h:=h) (S:=S) (T:=tLe) hR kall (nT (by decide) (by decide)) (nT (by decide) (by decide)),hR.inj,fun j hj=>hR.nrm j (by omega)⟩
end
def lockB (S:ES) (d:Hd):Bool:=reasonB S d || decidedB S d
def goneS (S:ES) (k:Nat) (d:Hd):ES:={S with H:=S.H.set k {d with gone:=true}}
def forgetT (S:ES) (i k:Nat) (d:Hd):ES:=noteS {dropAr (goneS S k d) d.at_ with learnts:=S.learnts.eraseIdx i} true d.ls
def forget (S:ES) (i:Int):Int×ES:=
 if S.rest=false then (3,S) else if i<0∨(S.learnts.length:Int)≤i then (2,S)
 else match S.learnts[i.toNat]? with
 | none=>(2,S)
 | some k=>match S.H[k]? with
  | none=>(2,S)
  | some d=>if lockB S d=true then (160,S) else (0,forgetT S i.toNat k d)
theorem forget8 {w : World} {b : Nat} {o : Nat → Int} {h : Hs} {S : ES} (hR : Rp noEx w b o h S) (hW : WfS S) (hrs : ∀ x ∈ entS S, x.rs.length ≤ 1048576) (hw : (words S.ar.cs).length ≤ 17592186044416) (hlog : S.log.length ≤ 1099511627776) (i : Int) :
    Calls Tryz.prog 63 #[Pt b, I i] w fun e w' => e = .returned (I (forget S i).1) ∧ Nx tMine noEx w b o h (forget S i).2 w' := by
  refine (V63_calls (some ⟨b, 0, none⟩) i w (fun v w' => v = I (forget S i).1 ∧ Nx tMine noEx w b o h (forget S i).2 w') ?_).mono fun e w' ⟨v, he, hv, hk⟩ => ⟨by rw [he, hv], hk⟩
  unfold V63
  have hln := pts_len hR.le
  have stop : ∀ {W : World} {x : Int}, Keep None w W → forget S i = (x, S) → (I x = I (forget S i).1 ∧ Nx tMine noEx w b o h (forget S i).2 W) := fun {W x} k e => by
    rw [e]; exact ⟨rfl, (Nx.refl hR).keep0 k⟩
  refine nn_of (ldB_of (x := S.rest) (by rw [add_mk]; exact hR.self.cell 9) ?_)
  cases hr : S.rest with
  | false => exact pif_t rfl (stop (Keep.refl _ _) (by unfold forget; rw [if_pos hr]))
  | true =>
    have f1 : forget S i = (if i < 0 ∨ (S.learnts.length : Int) ≤ i then ((2 : Int), S) else match S.learnts[i.toNat]? with
      | none => ((2 : Int), S)
      | some k => match S.H[k]? with
        | none => ((2 : Int), S)
        | some d => if lockB S d = true then ((160 : Int), S) else ((0 : Int), forgetT S i.toNat k d)) := by unfold forget; rw [if_neg (by rw [hr]; decide)]
    refine pif_f rfl ?_
    have c6 : ∀ {V : World} {h1 : Hs} {S1 : ES}, Rp noEx V b o h1 S1 → ∀ {K : Option Addr → Nat → Nat → Prop}, K h1.le.1 h1.le.2.1 h1.le.2.2 → ldC V ((⟨b, 0, none⟩ : Addr).add 6) K := fun {V h1 S1} hRV {K} hK => by
      rw [add_mk]; exact ldC_of (x := h1.le.1) (n := h1.le.2.1) (c := h1.le.2.2) (hRV.self.cell 6) hK
    by_cases hneg : i < 0
    · rw [decide_eq_true hneg]
      exact gd_f rfl (gd_f rfl (pif_t rfl (stop (Keep.refl _ _) (by rw [f1, if_pos (Or.inl hneg)]))))
    rw [decide_eq_false hneg]
    refine gd_t rfl (nn_of (gd_t rfl (c6 hR ?_)))
    by_cases hbig : (S.learnts.length : Int) ≤ i
    · exact pif_t (by have : i ≥ (h.le.2.1 : Int) := by omega
                      show cond false true (decide (i ≥ (h.le.2.1 : Int))) = true
                      rw [decide_eq_true this]; rfl) (stop (Keep.refl _ _) (by rw [f1, if_pos (Or.inr hbig)]))
    rw [if_neg (by omega)] at f1
    refine pif_f (by have : ¬ i ≥ (h.le.2.1 : Int) := by omega
                     show cond false true (decide (i ≥ (h.le.2.1 : Int))) = false
                     rw [decide_eq_false this]; rfl) (nn_of (c6 hR ?_))
    obtain ⟨j, rfl⟩ : ∃ j : Nat, i = j := ⟨i.toNat, by omega⟩
    rw [Int.toNat_natCast] at f1
    have hj : j < S.learnts.length := by omega
    obtain ⟨k, hk⟩ := getE hj
    obtain ⟨d, hd⟩ := getE (hW.le k (List.mem_of_getElem? hk))
    rw [hk] at f1
    dsimp only at f1
    rw [hd] at f1
    dsimp only at f1
    obtain ⟨hdw, hdn, hdl, hdat⟩ := hW.hl k d hd
    have hle := hR.le
    refine hR.le.ix (by omega) (by omega) fun bq hbq => ?_
    have hle' := hle
    rw [hbq] at hle'
    refine ldP_of (x := some ⟨h.hb k, 0, none⟩) (by rw [hle'.cell _ (by omega), Int.toNat_natCast, Nat.mul_one, List.getElem?_map, hk]; rfl) ?_
    refine cl_of ok107 (reason36 hR hd (by omega) hrs hw) fun e w3 ⟨he, k3⟩ => ⟨_, he, ?_⟩
    have hR3 := hR.keep0 k3
    have go : ∀ {W : World}, Keep None w W → lockB S d = false → nn (some ⟨h.hb k, 0, none⟩) fun p28 => Vc.st W ((p28.add 4).add 0) (.bool true) fun w6 =>
        nn (some ⟨b, 0, none⟩) fun p29 => ldP (World.drew w6) (p29.add 1) fun x30 => nn (some ⟨h.hb k, 0, none⟩) fun p31 => ldI .i64 (World.drew w6) (p31.add 0) fun x32 =>
        Vc.cl Tryz.prog 109 [.pointer x30, .int .i64 x32] (World.drew w6) fun e34 w7 => ∃ x33 : Int, e34 = Ending.returned (.int .i64 x33) ∧
        nn (some ⟨b, 0, none⟩) fun p36 => ldC w7 (p36.add 6) fun x37 x37n x37c =>
        Vc.cl Tryz.prog 110 [.slice x37 x37n x37c, .int .i64 (j : Int), .int .i64 (IntKind.wrap .i64 ((j : Int) + 1))] w7 fun e39 w8 => ∃ (x38 : Option Addr) (x38n x38c : Nat), e39 = Ending.returned (.slice x38 x38n x38c) ∧
        nn (some ⟨b, 0, none⟩) fun p40 => Vc.st w8 ((p40.add 6).add 0) (.slice x38 x38n x38c) fun w9 =>
        nn (some ⟨b, 0, none⟩) fun p41 => ldV (World.drew w9) (p41.add 7) fun x42 => nn (some ⟨h.hb k, 0, none⟩) fun p43 => ldC (World.drew w9) (p43.add 1) fun x44 x44n x44c =>
        nkA (x42) = true ∧
        Vc.cl Tryz.prog 56 [.slice x44 x44n x44c] (World.drew w9) fun e46 w10 => ∃ (x45 : Option Addr) (x45n x45c : Nat), e46 = Ending.returned (.slice x45 x45n x45c) ∧
        (ldV w10 (p41.add 7) fun x47 => ((x47 : Value) = x42)) ∧
        clM Tryz.prog (x42) "depot/engine.note" [.agg #[.bool true, .slice x45 x45n x45c]] w10 fun e48 w11 => e48 = Ending.returned (.tuple #[]) ∧
        (Value.int .i64 0 = I (forget S (j : Int)).1 ∧ Nx tMine noEx w b o h (forget S (j : Int)).2 w11) := by
      intro W kW hlk
      have f2 : forget S (j : Int) = (0, forgetT S j k d) := by rw [f1, if_neg (by rw [hlk]; decide)]
      rw [f2]
      have hRW := hR.keep0 kW
      have zW := kW.size
      obtain ⟨hB, ho12, _, _⟩ := hRW.held k d hd
      refine nn_of ?_
      rw [add_mk, add_mk]
      refine st_of hB (by simp) rfl fun w6 hB6 k6 z6 => ?_
      have hR6 := hRW.setHeld (d' := { d with gone := true }) hd rfl k6 hB6 z6
      have kd6 : Keep None w6 w6.drew := (Keep.refl _ _).drew
      have hR6d := hR6.keep0 kd6
      have hd6 : (S.H.set k { d with gone := true })[k]? = some { d with gone := true } := List.getElem?_set_self (List.getElem?_eq_some_iff.1 hd).1
      have kk6 : Keep (fun i => tMine (o i)) w w6 := (kW.none (S := fun i => tMine (o i))).trans k6 fun q _ hq => by
        have hq' : q = h.hb k := hq
        show o q ≠ -9
        rw [hq', ho12]; decide
      refine nn_of (ldP_of (x := some ⟨h.st, 0, none⟩) (by rw [add_mk]; exact hR6d.self.cell 1) (nn_of (ldI_of (x := d.at_) (by rw [add_mk]; exact (hR6d.held k _ hd6).1.cell 0) ?_)))
      refine cl_of ok109 (dropA hR6d d.at_) fun e w7 ⟨x33, he, hN7⟩ => ⟨_, he, ?_⟩
      obtain ⟨o7, h7, r7, a7, k7, e7, n7⟩ := hN7.nine (by decide)
      have z6d : w6.drew.heap.size = w6.heap.size := rfl
      have a07 : Ag w o o7 := fun q hq => a7 q (by omega)
      have kk7 := keep_nine (T := tAr) (o1 := o) (by decide) (kk6.then0 kd6) (Ag.refl _ _) k7
      have z7 := k7.size
      have hle7 := r7.le
      have hln7 : S.learnts.length = h7.le.2.1 := pts_len hle7
      have hlel := hW.lel
      refine nn_of (ldC_of (x := h7.le.1) (n := h7.le.2.1) (c := h7.le.2.2) (by rw [add_mk]; exact r7.self.cell 6) ?_)
      rw [wrap_nat j (by omega)]
      have h39 := delete39 (f := fun k => Pt (h7.hb k)) (ks := S.learnts) (i := j) (fun _ => rfl) hle7 (by omega) (by omega)
      refine cl_of ok110 h39 fun e w8 ⟨he, hO8, k8⟩ => ⟨_, _, _, he, nn_of ?_⟩
      have kt8 : Keep (fun q => (fun t : Int => t = -7) (o7 q)) w7 w8 := k8.mono fun q _ hq => r7.leO q hq
      have hs8 := blk_K (T := fun t => t = -7) r7.self r7.selfO kt8 (by decide)
      rw [add_mk, add_mk]
      refine st_of hs8 (by simp) rfl fun w9 hs9 k9 z9 => ?_
      have k79 : Keep (fun q => tLe (o7 q)) w7 w9 := (show Keep (fun q => tLe (o7 q)) w7 w8 from kt8.mono fun q _ hq => Or.inr hq).trans k9 fun q _ hq => by
        have hq' : q = b := hq
        show tLe (o7 q)
        rw [hq', r7.selfO]; exact Or.inl rfl
      have hO9 := hO8.keep k9 fun q hq hh => by
        have hh' : q = b := hh
        have := r7.leO q hq
        rw [hh', r7.selfO] at this; exact absurd this (by decide)
      have r9 := r7.leTo (g := (h7.le.1, h7.le.2.1 - 1, h7.le.2.2)) (ks := S.learnts.eraseIdx j) k79 hs9 hO9 r7.leO
      have kk9 := keep_nine (T := tLe) (by intro hh; rcases hh with hh | hh <;> omega) kk7 a07 k79
      have z79 := k79.size
      have kd9 : Keep None w9 w9.drew := (Keep.refl _ _).drew
      have r9d := r9.keep0 kd9
      have hd9 : (dropAr (goneS S k d) d.at_).H[k]? = some { d with gone := true } := hd6
      obtain ⟨hB9, _, hC9, hC9o⟩ := r9d.held k _ hd9
      have hC9l := hC9.len
      rw [show h7.hb k = h.hb k by rw [e7]] at hB9
      refine nn_of ⟨_, by rw [add_mk]; exact r9d.self.cell 7, nn_of (ldC_of (x := (h7.hl k).1) (n := (h7.hl k).2.1) (c := (h7.hl k).2.2) (by rw [add_mk]; exact hB9.cell 1) ⟨rfl, ?_⟩)⟩
      refine cl_of ok56 (clone40 hC9 (by have : d.ls.length = (h7.hl k).2.1 := hC9l; show (h7.hl k).2.1 ≤ _; omega)) fun e w10 ⟨v, he, kp, kc, hv, hO10, hkn, k10⟩ => ?_
      subst hv
      refine ⟨kp, _, kc, he, ⟨_, by rw [add_mk]; exact (r9d.keep0 k10).self.cell 7, rfl⟩, ?_⟩
      have r10 := r9d.keep0 k10
      refine noteM r10 (dr := true) (own_rdl hO10) (by show d.ls.length ≤ _; omega) hlog fun w11 hN11 => ⟨rfl, rfl, ?_⟩
      obtain ⟨o11, h11, r11, a11, k11, e11, n11⟩ := hN11.nine (by intro hh; rcases hh with hh | hh | hh <;> omega)
      have kd10 := kd9.then0 k10
      have z10 := kd10.size
      exact ⟨o11, h11, r11, a07.trans a11 (by omega), keep_nine (T := tNote) (by intro hh; rcases hh with hh | hh | hh <;> omega) (kk9.then0 kd10) a07 k11, e11.trans e7⟩
    cases hrb : reasonB S d with
    | true =>
      exact gd_f rfl (pif_t rfl (stop k3 (by rw [f1, if_pos (by unfold lockB; rw [hrb]; rfl)])))
    | false =>
      refine gd_t rfl (cl_of ok108 (decided37 hR3 hd (by omega) fun x hx => wi_fl hR.nv (hdw x hx)) fun e w4 ⟨he, k4⟩ => ⟨_, he, ?_⟩)
      cases hdb : decidedB S d with
      | true => exact pif_t rfl (stop (k3.then0 k4) (by rw [f1, if_pos (by unfold lockB; rw [hrb, hdb]; rfl)]))
      | false => exact pif_f rfl (go (k3.then0 k4) (by unfold lockB; rw [hrb, hdb]; rfl))
end Go.Proofs.YtmhjehodfggleaaGreat.Eng

/- Formulas in memory: tautologies, formed formulas. -/

set_option linter.unusedVariables false
set_option linter.unusedSimpArgs false
set_option linter.unusedSectionVars false
set_option maxRecDepth 100000
namespace Go.Proofs.YtmhjehodfggleaaGreat.Eng
open Go Go.Proofs.YtmhjehodfggleaaGreat.Vc Go.Proofs.YtmhjehodfggleaaGreat.T
open Go.Proofs.YtmhjehodfggleaaGreat.Apart (RdL own_rdl wrap_nat getE own_len take_snoc Sl sv New)
open Go.Proofs.YtmhjehodfggleaaGreat.Lits (fl fl_iff idx idx_inj idx_range Ans ans_of indexP formedP tidyP Td Srt)
def taut (c:List Int):Prop:=∃x∈c,-x∈c
theorem taut_adj {L:List Int} (hs:Srt L) (hf:∀x∈L,fl x=true):(∃i x,L[i+1]?=some x∧L[i]?=some (-x))↔taut L:=by
 constructor
 ·rintro ⟨i,x,h1,h2⟩
  exact ⟨x,List.mem_of_getElem? h1,List.mem_of_getElem? h2⟩
 ·rintro ⟨x,hx,hnx⟩
  obtain ⟨y,hy0,hy,hny⟩:∃y:Int,0<y∧y∈L∧-y∈L:=by
   have h0:=(fl_iff.1 (hf x hx)).1
   by_cases hlt:x<0
   ·exact ⟨-x,by omega,hnx,by rw [Int.neg_neg]; exact hx⟩
   ·exact ⟨x,by omega,hx,hnx⟩
  obtain ⟨i,hi,hie⟩:=List.mem_iff_getElem.1 hy
  obtain ⟨j,hj,hje⟩:=List.mem_iff_getElem.1 hny
  have hp:=List.pairwise_iff_getElem.1 hs
  have e1:idx (-y)=idx y+1:=by unfold idx; split<;>split<;>omega
  have hij:j=i+1:=by
   rcases Nat.lt_trichotomy j (i+1) with h | h | h
   ·rcases Nat.lt_or_eq_of_le (Nat.le_of_lt_succ h) with h' | h'
    ·have:=hp j i hj hi h'
     rw [hie,hje] at this; omega
    ·subst h'
     rw [hie] at hje; omega
   ·exact h
   ·have h1:=hp i (i+1) hi (by omega) (by omega)
    have h2:=hp (i+1) j (by omega) hj h
    rw [hie] at h1; rw [hje] at h2; omega
  subst hij
  exact ⟨i,-y,(List.getElem?_eq_getElem hj).trans (by rw [hje]),(List.getElem?_eq_getElem hi).trans (by rw [hie,Int.neg_neg])⟩
theorem taut42 {w : World} {p : Option Addr} {n c : Nat} {cs : List Int} (hRd : RdL w p n cs) (hn : n ≤ 17592186044416) (hf : ∀ x ∈ cs, fl x = true) :
    Calls Tryz.prog 46 #[.slice p n c] w fun e w' => ∃ r : Bool, e = .returned (.bool r) ∧ (r = true ↔ taut cs) ∧ Keep None w w' := by
  refine (V46_calls p n c w (fun v w' => ∃ r : Bool, v = .bool r ∧ (r = true ↔ taut cs) ∧ Keep None w w') ?_).mono fun e w' ⟨v, he, r, hv, hk⟩ => ⟨r, by rw [he, hv], hk⟩
  unfold V46
  refine cl_of ok47 (tidyP hRd hn) fun e w1 ⟨v, L, he, hT, g, gc, hv, hO, hg, k1⟩ => ⟨_, _, _, he.trans (congrArg Ending.returned hv), ?_⟩
  have hLf : ∀ x ∈ L, fl x = true := fun x hx => ((hT.mem x).1 hx).2
  have hm : ∀ x, x ∈ L ↔ x ∈ cs := fun x => ⟨fun h => ((hT.mem x).1 h).1, fun h => (hT.mem x).2 ⟨h, hf x h⟩⟩
  have htt : taut L ↔ taut cs := by unfold taut; simp only [hm]
  have hRL := own_rdl hO
  have hLl : L.length ≤ 2097153 := hT.len
  refine lp_of (fun s W => ∃ i : Nat, s.1 = (i + 1 : Nat) ∧ (i = 0 ∨ i + 1 ≤ L.length) ∧ Keep None w1 W ∧ ∀ j x, j < i → L[j + 1]? = some x → L[j]? ≠ some (-x)) (fun s _ => (L.length - s.1).toNat) ⟨0, rfl, Or.inl rfl, Keep.refl _ _, fun j x hj => by omega⟩ ?_
  rintro ⟨i', ⟨⟩⟩ W ⟨i, rfl, hi, kW, hv⟩
  simp only [] at hv ⊢
  have kd : Keep None w1 W.drew := kW.drew
  refine pif_of (fun hlt => ?_) fun hge => ?_
  · have hlt : i + 1 < L.length := by have := of_decide_eq_true hlt
                                      omega
    refine (hRL.keep0 kW).ix hlt fun a x hx ha => ldI_of (by first | exact ha | simpa using ha) ?_
    have e1 : IntKind.wrap .i64 (((i + 1 : Nat) : Int) - 1) = (i : Nat) := by rw [IntKind.wrap_i64]; omega
    rw [e1]
    refine (hRL.keep0 kd).ix (by omega) fun a2 y hy ha2 => ldI_of ha2 ?_
    have hyf := fl_iff.1 (hLf y (List.mem_of_getElem? hy))
    have e2 : IntKind.wrap .i64 (0 - y) = -y := by rw [IntKind.wrap_i64]; omega
    rw [e2]
    refine pif_of (fun h => ?_) fun h => ?_
    · have h : x = -y := by simpa using h
      exact ⟨true, rfl, ⟨fun _ => htt.1 ((taut_adj hT.srt hLf).1 ⟨i, x, hx, by rw [hy, h, Int.neg_neg]⟩), fun _ => rfl⟩, k1.then0 kd⟩
    · have h : x ≠ -y := by simpa using h
      rw [wrap_nat (i + 1) (by omega)]
      refine ⟨⟨i + 1, rfl, Or.inr (by omega), kd, fun j z hj hz hh => ?_⟩, by omega⟩
      rcases Nat.lt_or_eq_of_le (Nat.le_of_lt_succ hj) with hj | rfl
      · exact hv j z hj hz hh
      · rw [hx] at hz; injection hz with hz; subst hz
        rw [hy] at hh; injection hh with hh; omega
  · have hge : ¬ i + 1 < L.length := by intro hh; have := of_decide_eq_false hge
                                        omega
    refine ⟨false, rfl, ⟨fun hh => (by cases hh), fun hh => ?_⟩, k1.then0 kW⟩
    obtain ⟨j, x, h1, h2⟩ := (taut_adj hT.srt hLf).2 (htt.2 hh)
    have hjl := (List.getElem?_eq_some_iff.1 h1).1
    exact absurd h2 (hv j x (by omega) h1)
theorem within41 {w:World} {p:Option Addr} {n c:Nat} {cs:List Int} (hRd:RdL w p n cs) (hn:n≤17592186044416) {nv:Nat} (hnv:nv≤1048576) :
  Calls Tryz.prog 88 #[.slice p n c,I nv] w fun e w'=>∃r:Bool,e=.returned (.bool r)∧(r=true↔∀x∈cs,Wi nv x)∧Keep None w w':=by
 refine (V88_calls p n c nv w (fun v w'=>∃r:Bool,v=.bool r∧(r=true↔∀x∈cs,Wi nv x)∧Keep None w w') ?_).mono fun e w' ⟨v,he,r,hv,hk⟩=>⟨r,by rw [he,hv],hk⟩
 unfold V88
 have hll:=hRd.len
 refine cl_of ok89 (Arn.sound50 hRd hn) fun e w1 ⟨r,he,hr,k1⟩=>⟨r,he,?_⟩
 refine pif_of (fun hq=>⟨false,rfl,⟨fun hh=>(by cases hh),fun hh=>?_⟩,k1⟩) fun hq=>?_
 ·rw [hr.2 fun x hx=>wi_fl hnv (hh x hx)] at hq; cases hq
 have hf:=hr.1 (by simpa using hq)
 refine lp_of (fun s W=>∃i:Nat,s.1=(i:Int)∧i≤n∧Keep None w W∧∀x∈cs.take i,Wi nv x) (fun s _=>(n - s.1).toNat) ⟨0,rfl,Nat.zero_le _,k1,fun x hx=>by simp at hx⟩ ?_
 rintro ⟨i',⟨⟩⟩ W ⟨i,rfl,hi,kW,hv⟩
 simp only [] at hv ⊢
 refine pif_of (fun hlt=>?_) fun hge=>?_
 ·have hlt:i<n:=by simpa using hlt
  rw [wrap_nat i (by omega)]
  refine (hRd.keep0 kW).ix hlt fun a x hx ha=>ldI_of ha ?_
  have hxc:=List.mem_of_getElem? hx
  have h3:=fl_iff.1 (hf x hxc)
  refine cl_of ok103 (Trail.var52 x _ (by omega)) fun e w2 ⟨he,hw2⟩=>⟨_,he,?_⟩
  subst hw2
  have ev:(if 1≤x.natAbs∧x.natAbs≤1048576 then (x.natAbs:Int) else 0)=x.natAbs:=if_pos ⟨by omega,by omega⟩
  rw [ev]
  refine pif_of (fun hq=>⟨false,rfl,⟨fun hh=>(by cases hh),fun hh=>?_⟩,kW⟩) fun hq=>?_
  ·have hq:=of_decide_eq_true hq
   have:=hh x hxc
   unfold Wi at this
   omega
  ·have hq:=of_decide_eq_false hq
   refine ⟨⟨i+1,rfl,hlt,kW,fun y hy=>?_⟩,by omega⟩
   rw [take_snoc hx] at hy
   rcases List.mem_append.1 hy with hy | hy
   ·exact hv y hy
   ·rw [List.mem_singleton.1 hy]
    unfold Wi
    omega
 ·have hge:i=n:=by simp at hge; omega
  subst hge
  rw [←hll,List.take_length] at hv
  exact ⟨true,rfl,⟨fun _=>hv,fun _=>rfl⟩,kW⟩
structure RdC (B:Nat→Prop) (w:World) (p:Option Addr) (n:Nat) (css:List (List Int)):Prop where
 len:css.length=n
 cell:∀(i:Nat) (es:List Int),css[i]?=some es→∃(a:Addr) (q:Option Addr) (m c:Nat),p=some a∧w.cell? (a.add i)=some (.slice q m c)∧RdL w q m es∧B a.block∧(∀j,ob q j→0<m→B j)∧(q=none→c=0)
theorem rdl_keep {S:Nat→Prop} {w w':World} {q:Option Addr} {m:Nat} {es:List Int} (h:RdL w q m es) (hk:Keep S w w') (hs:∀j,ob q j→0<m→¬S j):RdL w' q m es:=by
 by_cases hm:m=0
 ·subst hm
  have:=List.eq_nil_of_length_eq_zero h.len
  subst this
  exact ⟨rfl,fun i x hx=>by simp at hx⟩
 ·exact h.keep hk fun j hj=>hs j hj (by omega)
section
variable {B:Nat→Prop} {w w':World} {p:Option Addr} {n:Nat} {css:List (List Int)}
theorem blk_add (a:Addr) (i:Nat):(a.add i).block=a.block:=by unfold Addr.add; split<;>rfl
theorem RdC.keep {S:Nat→Prop} (h:RdC B w p n css) (hk:Keep S w w') (hs:∀i,B i→¬S i):RdC B w' p n css:=
 ⟨h.len,fun i es hi=>by
  obtain ⟨a,q,m,c,h1,h2,h3,h4,h5⟩:=h.cell i es hi
  exact ⟨a,q,m,c,h1,hk.cell h2 (by rw [blk_add]; exact hs _ h4),rdl_keep h3 hk fun j hj h0=>hs j (h5.1 j hj h0),h4,h5⟩⟩
theorem RdC.keep0 (h:RdC B w p n css) (hk:Keep None w w'):RdC B w' p n css:=h.keep hk fun _ _ h=>h
theorem RdC.ix (h:RdC B w p n css) {i:Nat} {es:List Int} (hx:css[i]?=some es) {K:Addr→Prop} (hk:∀a q m c,w.cell? a=some (.slice q m c)→RdL w q m es→(∀j,ob q j→0<m→B j)→(q=none→c=0)→K a):ixA p n (i:Int) 1 K:=by
 have hl:=h.len
 have hi:=(List.getElem?_eq_some_iff.1 hx).1
 obtain ⟨a,q,m,c,rfl,h2,h3,_,h5,h6⟩:=h.cell i es hx
 refine ⟨by omega,by omega,?_⟩
 show K _
 rw [Nat.mul_one,Int.toNat_natCast]
 exact hk _ q m c h2 h3 h5 h6
end
def FormedF (nv:Int) (css:List (List Int)):Prop:=0≤nv∧nv≤1048576∧∀c∈css,∀x∈c,Wi nv.toNat x
theorem formed23 {B : Nat → Prop} {w : World} {nv : Int} {p : Option Addr} {n c : Nat} {css : List (List Int)} (hC : RdC B w p n css) (hn : n ≤ 17592186044416) (hl : ∀ es ∈ css, es.length ≤ 17592186044416) :
    Calls Tryz.prog 42 #[.agg #[I nv, .slice p n c]] w fun e w' => ∃ r : Bool, e = .returned (.bool r) ∧ (r = true ↔ FormedF nv css) ∧ Keep None w w' := by
  refine (V42_calls nv p n c w (fun v w' => ∃ r : Bool, v = .bool r ∧ (r = true ↔ FormedF nv css) ∧ Keep None w w') ?_).mono fun e w' ⟨v, he, r, hv, hk⟩ => ⟨r, by rw [he, hv], hk⟩
  unfold V42
  have hll := hC.len
  refine alc_at fun b2 w1 hb2 hB2 k1 => ?_
  refine ldI_of (x := nv) (by rw [add_mk]; exact hB2.cell 0) ?_
  have cont : nv < 0 ∨ nv > 1048576 → ¬ FormedF nv css := fun h hf => by obtain ⟨a, b, _⟩ := hf; omega
  refine gd_of (fun h => ?_) fun h => ?_
  · have h0 : ¬ nv < 0 := by simpa using h
    have hd : decide (nv < 0) = false := decide_eq_false h0
    refine ldI_of (x := nv) (by rw [add_mk]; exact hB2.cell 0) ?_
    rw [hd]
    refine pif_of (fun hq => ⟨false, rfl, ⟨fun hh => (by cases hh), fun hh => absurd hh (cont (Or.inr (by simpa using hq)))⟩, k1⟩) fun hq => ?_
    have hle : nv ≤ 1048576 := by have : ¬ nv > 1048576 := by simpa using hq
                                  omega
    obtain ⟨m, rfl⟩ := Int.eq_ofNat_of_zero_le (show 0 ≤ nv by omega)
    refine ldC_of (x := p) (n := n) (c := c) (by rw [add_mk]; exact hB2.cell 1) ?_
    refine lp_of (fun s W => ∃ i : Nat, s.1 = (i : Int) ∧ i ≤ n ∧ Keep None w1 W ∧ ∀ es ∈ css.take i, ∀ x ∈ es, Wi m x) (fun s _ => (n - s.1).toNat) ⟨0, rfl, Nat.zero_le _, Keep.refl _ _, fun x hx => by simp at hx⟩ ?_
    rintro ⟨i', ⟨⟩⟩ W ⟨i, rfl, hi, kW, hv⟩
    simp only [] at hv ⊢
    refine pif_of (fun hlt => ?_) fun hge => ?_
    · have hlt : i < n := by simpa using hlt
      rw [wrap_nat i (by omega)]
      obtain ⟨es, hes⟩ := getE (show i < css.length by omega)
      have hm := List.mem_of_getElem? hes
      refine ((hC.keep0 k1).keep0 kW).ix hes fun a q k cc ha hRd _ _ => ldC_of ha (ldI_of (x := (m : Nat)) (by rw [add_mk]; exact (hB2.keep0 kW).cell 0) ?_)
      refine cl_of ok88 (within41 hRd (by rw [← hRd.len]; exact hl es hm) (nv := m) (by omega)) fun e w3 ⟨r, he, hr, k3⟩ => ⟨r, he, ?_⟩
      refine pif_of (fun hq => ⟨false, rfl, ⟨fun hh => (by cases hh), fun hh => ?_⟩, (k1.then0 kW).then0 k3⟩) fun hq => ?_
      · rw [hr.2 (hh.2.2 es hm)] at hq; cases hq
      · refine ⟨⟨i + 1, rfl, hlt, kW.then0 k3, fun y hy => ?_⟩, by omega⟩
        rw [List.take_add_one, hes] at hy
        rcases List.mem_append.1 hy with hy | hy
        · exact hv y hy
        · rw [List.mem_singleton.1 hy]; exact hr.1 (by simpa using hq)
    · have hge : i = n := by simp at hge; omega
      subst hge
      rw [← hll, List.take_length] at hv
      exact ⟨true, rfl, ⟨fun _ => ⟨by omega, hle, hv⟩, fun _ => rfl⟩, k1.then0 kW⟩
  · have h0 : nv < 0 := by simpa using h
    exact pif_t (by rw [decide_eq_true h0]; rfl) ⟨false, rfl, ⟨fun hh => (by cases hh), fun hh => absurd hh (cont (Or.inl h0))⟩, k1⟩
end Go.Proofs.YtmhjehodfggleaaGreat.Eng

/- An Engine of a formula, in plain; one clause of it in memory. -/

set_option linter.unusedVariables false
set_option linter.unusedSimpArgs false
set_option linter.unusedSectionVars false
set_option maxRecDepth 100000
namespace Go.Proofs.YtmhjehodfggleaaGreat.Eng
open Go Go.Proofs.YtmhjehodfggleaaGreat.Vc Go.Proofs.YtmhjehodfggleaaGreat.T
open Go.Proofs.YtmhjehodfggleaaGreat.Apart (RdL own_rdl wrap_nat getE own_len take_snoc Sl sv New LL)
open Go.Proofs.YtmhjehodfggleaaGreat.Lits (fl fl_iff Ans ans_of formedP idx idx_range idx_inj indexP Td Srt)
open Go.Proofs.YtmhjehodfggleaaGreat.Arn (Ar AR words off cw Got)
open Go.Proofs.YtmhjehodfggleaaGreat.Trail (TI Tr St valA levA reaA ownB Moved TLaid above upto freeA implA Open ent)
open Go.Proofs.YtmhjehodfggleaaGreat.Learn (En RdE LSpec Askd shr Learnt Shrunk)
def insL (x:Int):List Int→List Int
 | []=>[x]
 | y :: ys=>if idx x<idx y then x :: y :: ys else if x=y then y :: ys else y :: insL x ys
def tidyL (c:List Int):List Int:=c.foldr insL []
theorem mem_insL (x z:Int):∀L:List Int,z∈insL x L↔z=x∨z∈L
 | []=>by simp [insL]
 | y :: ys=>by
  unfold insL
  split
  ·simp
  ·split
   ·rename_i _ h; subst h; simp
   ·rw [List.mem_cons,mem_insL x z ys,List.mem_cons]
    constructor
    ·rintro (h | h | h)
     ·exact Or.inr (Or.inl h)
     ·exact Or.inl h
     ·exact Or.inr (Or.inr h)
    ·rintro (h | h | h)
     ·exact Or.inr (Or.inl h)
     ·exact Or.inl h
     ·exact Or.inr (Or.inr h)
theorem srt_insL {x:Int} (hx:fl x=true):∀{L:List Int},Srt L→(∀y∈L,fl y=true)→Srt (insL x L)
 | [],_,_=>List.pairwise_singleton _ _
 | y :: ys,hs,hf=>by
  unfold Srt at hs
  rw [List.pairwise_cons] at hs
  unfold insL
  split
  ·rename_i h
   refine List.pairwise_cons.2 ⟨fun z hz=>?_,List.pairwise_cons.2 hs⟩
   rcases List.mem_cons.1 hz with rfl | hz
   ·exact h
   ·have:=hs.1 z hz; omega
  ·split
   ·exact List.pairwise_cons.2 hs
   ·rename_i h1 h2
    refine List.pairwise_cons.2 ⟨fun z hz=>?_,srt_insL hx hs.2 fun z hz=>hf z (List.mem_cons_of_mem _ hz)⟩
    rcases (mem_insL x z ys).1 hz with rfl | hz
    ·have:idx y≠idx z:=fun e=>h2 (idx_inj hx (hf y (by simp)) e.symm)
     omega
    ·exact hs.1 z hz
theorem tidyL_td {c:List Int} (hf:∀x∈c,fl x=true):Td (·∈c) (tidyL c):=by
 have hm:∀(c:List Int) (x:Int),x∈tidyL c↔x∈c:=fun c x=>by
  induction c with
  | nil=>simp [tidyL]
  | cons y ys ih=>
   show x∈insL y (tidyL ys)↔_
   rw [mem_insL,ih,List.mem_cons]
 refine ⟨?_,fun x=>⟨fun h=>⟨(hm c x).1 h,hf x ((hm c x).1 h)⟩,fun h=>(hm c x).2 h.1⟩⟩
 induction c with
 | nil=>exact List.Pairwise.nil
 | cons y ys ih=>exact srt_insL (hf y (by simp)) (ih fun x hx=>hf x (List.mem_cons_of_mem _ hx)) fun z hz=>hf z (List.mem_cons_of_mem _ ((hm ys z).1 hz))
def tautB (c:List Int):Bool:=c.any fun x=>decide (-x∈c)
theorem tautB_iff (c:List Int):tautB c=true↔taut c:=by
 unfold tautB taut
 rw [List.any_eq_true]
 constructor
 ·rintro ⟨x,hx,h⟩; exact ⟨x,hx,of_decide_eq_true h⟩
 ·rintro ⟨x,hx,h⟩; exact ⟨x,hx,decide_eq_true h⟩
def tidHd (S:ES) (c:List Int):Hd:=⟨atN S,tidyL c,0,0,false⟩
def addC (S:ES) (c:List Int):ES:=
 if tautB c=true then putAr S c
 else if (tidyL c).length<2 then {putAr S c with H:=S.H++[tidHd S c],short:=S.short++[S.H.length]}
 else watchS {putAr S c with H:=S.H++[tidHd S c]} S.H.length (tidHd S c) ((tidyL c).headD 0) ((tidyL c).tail.headD 0)
def newE (nv:Nat) (css:List (List Int)):ES:=
 css.foldl addC ⟨nv,⟨[],[]⟩,[],[],List.replicate (2*nv) [],[],[],[],[],0,false,false,false,0⟩
def tSh (t:Int):Prop:=t=-1∨t=-6
theorem pushSh {ex:Nat→Prop} {w:World} {b:Nat} {o:Nat→Int} {h:Hs} {S:ES} (hR:Rp ex w b o h S) {k:Nat} (hll:S.short.length≤8796093022208) {K:World→Prop} (hK:∀w',Nx tSh ex w b o h {S with short:=S.short++[k]} w'→K w') :
  ldC w ((⟨b,0,none⟩:Addr).add 5) fun x51 x51n x51c=>alc w [Pt (h.hb k)] 110 fun b52 w12=>
   ∃(x53:Option Addr) (x53n x53c:Nat),∃w13:World,(Builtin.append_ #[101,101] 101 #[.slice x51 x51n x51c,.slice (some (⟨b52,0,none⟩:Addr)) 1 1]).run Tryz.prog w12=.ok (.slice x53 x53n x53c) w13∧
   Vc.st w13 (((⟨b,0,none⟩:Addr).add 5).add 0) (.slice x53 x53n x53c) K:=by
 refine ldC_of (x:=h.ss.1) (n:=h.ss.2.1) (c:=h.ss.2.2) (by rw [add_mk]; exact hR.self.cell 5) (alc_at fun b52 w1 hb hB k1=>?_)
 have z1:=k1.size
 have hR1:=hR.keep0 k1
 have hln:=pts_len hR.sh
 refine app_of2 (e:=110) (sz:=1) (z:=.pointer none) (B:=8) Tryz.underlying101 (by kernel_rfl) rfl (by omega) hR1.sh hB.news1 (fun u hu=>?_) (by simp only [maxLen]; omega) (by omega) fun p' c' w2 hO hd=>?_
 ·simp only [List.mem_singleton] at hu; subst hu; rfl
 have kk:Keep (fun j=>o j=-6) w1 w2:=by
  rcases hd with ⟨_,_,_,kk⟩ | ⟨_,kk⟩
  ·exact kk.mono fun j _ hj=>hR.shO j hj
  ·exact kk.none
 have z2:=kk.size
 have pc:∀j,ob p' j→(j<w.heap.size∧o j=-6)∨w1.heap.size≤j:=fun j hj=>by
  rcases hd with ⟨e,_,_,_⟩ | ⟨e,_⟩
  ·rw [e] at hj; exact Or.inl ⟨hR.sh.lt j hj,hR.shO j hj⟩
  ·exact Or.inr (e j hj)
 have hs2:=blk_K (T:=fun t=>t=-6) hR1.self hR.selfO kk (by decide)
 rw [add_mk,add_mk]
 refine st_of hs2 (by simp) rfl fun w3 hs3 k3 z3=>hK w3 ?_
 have hbl:=hR.self.lt
 have kall:Keep (fun j=>tSh (o j)) w w3:=((k1.none (S:=fun j=>tSh (o j))).trans kk fun j _ hh=>Or.inr hh).trans k3 fun j _ hh=>by
  have hj:j=b:=hh
  show tSh (o j)
  rw [hj,hR.selfO]; exact Or.inl rfl
 have lo:∀{j:Nat},o j≠-9→j<w.heap.size:=fun {j} hj=>by
  apply Classical.byContradiction
  intro hn
  exact hj (hR.nrm j (by omega))
 have nT:∀{t:Int},t≠-1→t≠-6→¬tSh t:=fun a b hh=>by rcases hh with h | h; exact a h; exact b h
 let o':Nat→Int:=fun j=>open Classical in if j<w.heap.size then o j else if ob p' j then -6 else -9
 have e0:∀{j:Nat} {t:Int},t≠-9→o j=t→o' j=t:=fun {j} {t} hne hj=>by
  show (open Classical in if j<w.heap.size then o j else _)=t
  rw [if_pos (lo (by rw [hj]; exact hne))]; exact hj
 have har:=hR.arK (T:=tSh) kall (nT (by decide) (by decide))
 have hhd:=Rp.heldK (h:=h) (S:=S) (T:=tSh) hR kall (nT (by decide) (by decide)) (nT (by decide) (by decide))
 have hgl:=Rp.glK (h:=h) (S:=S) (T:=tSh) hR kall (nT (by decide) (by decide))
 refine ⟨o',{h with ss:=(p',h.ss.2.1+1,c')},⟨hs3,e0 (by decide) hR.selfO,ar_grow har (fun i hi=>⟨e0 (by decide) hi.1,hi.2⟩) (fun i hi=>hi.2),Rp.trK (h:=h) (S:=S) (T:=tSh) hR kall (nT (by decide) (by decide)),fun j hj=>e0 (by decide) (hR.trO j hj),
  own_K (T:=tSh) hR.oo hR.ooO kall (nT (by decide) (by decide)),fun j hj=>e0 (by decide) (hR.ooO j hj),own_K (T:=tSh) hR.out hR.outO kall (nT (by decide) (by decide)),fun j hj=>e0 (by decide) (hR.outO j hj),hR.hhl,hR.lsl,
  Rp.innK (h:=h) (S:=S) (T:=tSh) hR kall (fun i hi=>⟨hi,nT (by omega) (by omega)⟩),fun i x hx j hj=>⟨e0 (by omega) (Rp.innOK (h:=h) (S:=S) (T:=tSh) hR kall i x hx j hj).1,(Rp.innOK (h:=h) (S:=S) (T:=tSh) hR kall i x hx j hj).2⟩,
  ?_,fun j hj=>?_,own_K (T:=tSh) hR.le hR.leO kall (nT (by decide) (by decide)),fun j hj=>e0 (by decide) (hR.leO j hj),
  blk_K (T:=tSh) hR.bk hR.bkO kall (nT (by decide) (by decide)),e0 (by decide) hR.bkO,own_K (T:=tSh) hR.lg hR.lgO kall (nT (by decide) (by decide)),fun j hj=>e0 (by decide) (hR.lgO j hj),hR.gll,
  fun i x y hx hy=>⟨(hgl i x y hx hy).1,fun j hj=>⟨e0 (by decide) ((hgl i x y hx hy).2 j hj).1,((hgl i x y hx hy).2 j hj).2⟩⟩,
  fun i d' hd'=>by
   obtain ⟨h1,h2,h3,h4⟩:=hhd i d' hd'
   exact ⟨h1,e0 (by decide) h2,h3,fun j hj=>⟨e0 (by decide) (h4 j hj).1,(h4 j hj).2⟩⟩,hR.inj,fun j hj=>?_⟩,fun j hj=>if_pos hj,kall,rfl⟩
 ·show Own w3 _ 1 p' (h.ss.2.1+1) c' ((S.short++[k]).map fun k=>Pt (h.hb k))
  rw [List.map_append]
  refine hO.keep k3 fun j hj hh=>?_
  have hjb:j=b:=hh
  rcases pc j hj with h1 | h1
  ·rw [hjb,hR.selfO] at h1; exact absurd h1.2 (by decide)
  ·omega
 ·show (open Classical in if j<w.heap.size then o j else if ob p' j then -6 else -9)=-6
  rcases pc j hj with h1 | h1
  ·rw [if_pos h1.1]; exact h1.2
  ·rw [if_neg (by omega),if_pos hj]
 ·show (open Classical in if j<w.heap.size then o j else if ob p' j then -6 else -9)=-9
  rw [if_neg (by omega),if_neg fun hh=>by rcases pc j hh with h1 | h1; omega; have:=hO.lt j hh; omega]
end Go.Proofs.YtmhjehodfggleaaGreat.Eng

/- An Engine in plain: what holds of its lists, kept by a clause more. -/

set_option linter.unusedVariables false
set_option linter.unusedSimpArgs false
set_option linter.unusedSectionVars false
set_option maxRecDepth 100000
namespace Go.Proofs.YtmhjehodfggleaaGreat.Eng
open Go Go.Proofs.YtmhjehodfggleaaGreat.Vc Go.Proofs.YtmhjehodfggleaaGreat.T
open Go.Proofs.YtmhjehodfggleaaGreat.Apart (RdL own_rdl wrap_nat getE own_len take_snoc Sl sv New LL)
open Go.Proofs.YtmhjehodfggleaaGreat.Lits (fl fl_iff Ans ans_of formedP idx idx_range idx_inj indexP Td Srt)
open Go.Proofs.YtmhjehodfggleaaGreat.Trail (TI Tr St valA levA reaA ownB Moved TLaid above upto freeA implA Open ent)
section
variable {S:ES} {d:Hd}
theorem WfS.lt1 (h:WfS S) {i k:Nat} {ids:List Nat} (hi:S.lists[i]?=some ids) (hk:k∈ids):k<S.H.length:=by
 obtain ⟨d,hd,_⟩:=h.w1 i k ids hi hk
 exact (List.getElem?_eq_some_iff.1 hd).1
theorem snoc_get {α:Type} {l:List α} {x y:α} {i:Nat} (h:(l++[x])[i]?=some y):(i<l.length∧l[i]?=some y)∨(i=l.length∧x=y):=by
 by_cases hi:i<l.length
 ·rw [List.getElem?_append_left hi] at h; exact Or.inl ⟨hi,h⟩
 ·have:i=l.length:=by
   have:=(List.getElem?_eq_some_iff.1 h).1
   rw [List.length_append] at this
   simp only [List.length_singleton] at this; omega
  subst this
  rw [List.getElem?_append_right (Nat.le_refl _),Nat.sub_self] at h
  simp only [List.getElem?_cons_zero,Option.some.injEq] at h
  exact Or.inr ⟨rfl,h⟩
theorem WfS.snocH (h:WfS S) (hd:(∀x∈d.ls,Wi S.nv x)∧d.ls.Nodup∧d.ls.length≤2097153∧0≤d.at_) (hcl:S.H.length+1≤8796093022208):WfS {S with H:=S.H++[d]}:=by
 refine ⟨⟨h.nv,fun k d' hk=>?_,by show (S.H++[d]).length≤_; rw [List.length_append]; exact hcl,h.ll,h.nd,fun i k ids hi hk=>?_⟩,fun k hk=>?_,fun k hk=>?_,h.shl,h.lel⟩
 ·rcases snoc_get hk with ⟨_,h1⟩ | ⟨_,rfl⟩
  ·exact h.hl k d' h1
  ·exact hd
 ·obtain ⟨d1,hd1,r⟩:=h.w1 i k ids hi hk
  exact ⟨d1,by show (S.H++[d])[k]?=_; rw [List.getElem?_append_left (h.lt1 hi hk)]; exact hd1,r⟩
 ·have:=h.sh k hk; show k<(S.H++[d]).length; rw [List.length_append]; omega
 ·have:=h.le k hk; show k<(S.H++[d]).length; rw [List.length_append]; omega
theorem WfS.watch (h:WfS S) {k:Nat} (hd:S.H[k]?=some d) (hno:∀(i:Nat) (ids:List Nat),S.lists[i]?=some ids→k∉ids) {a c:Int} (ha:a∈d.ls) (hc:c∈d.ls) (hne:a≠c):WfS (watchS S k d a c):=by
 have hdd:=h.hl k d hd
 have hkl:=(List.getElem?_eq_some_iff.1 hd).1
 have haw:=hdd.1 a ha
 have hcw:=hdd.1 c hc
 have hia:idxN a≠idxN c:=fun e=>hne (idxN_inj h.nv haw hcw e)
 have hil:∀{l:Int},Wi S.nv l→idxN l<S.lists.length:=fun hl=>by rw [h.ll]; exact idxN_lt hl
 have hH:∀(j:Nat),(watchS S k d a c).H[j]?=if k=j then some {d with e0:=a,e1:=c} else S.H[j]?:=fun j=>by
  show (S.H.set k _)[j]?=_
  rw [List.getElem?_set]
  by_cases hkj:k=j
  ·rw [if_pos hkj,if_pos hkl,if_pos hkj]
  ·rw [if_neg hkj,if_neg hkj]
 have hL:∀(i:Nat) (js:List Nat),(watchS S k d a c).lists[i]?=some js→∃ids,S.lists[i]?=some ids∧(js=ids∨(js=ids++[k]∧(i=idxN a∨i=idxN c))):=fun i js hi=>by
  obtain ⟨La,hLa⟩:=getE (hil haw)
  obtain ⟨Lc,hLc⟩:=getE (hil hcw)
  have e1:listAt S (idxN a)=La:=by unfold listAt; rw [hLa]; rfl
  have hi':((S.lists.set (idxN a) (listAt S (idxN a)++[k])).set (idxN c) (((S.lists.set (idxN a) (listAt S (idxN a)++[k]))[idxN c]?.getD [])++[k]))[i]?=some js:=hi
  rw [List.getElem?_set_ne hia,hLc,e1] at hi'
  rw [List.getElem?_set] at hi'
  split at hi'
  ·rename_i he
   split at hi'
   ·injection hi' with hi'
    exact ⟨Lc,by rw [←he]; exact hLc,Or.inr ⟨hi'.symm,Or.inr he.symm⟩⟩
   ·cases hi'
  ·rw [List.getElem?_set] at hi'
   split at hi'
   ·rename_i he
    split at hi'
    ·injection hi' with hi'
     exact ⟨La,by rw [←he]; exact hLa,Or.inr ⟨hi'.symm,Or.inl he.symm⟩⟩
    ·cases hi'
   ·exact ⟨js,hi',Or.inl rfl⟩
 refine ⟨⟨h.nv,fun j d' hj=>?_,by show (S.H.set k _).length≤_; rw [List.length_set]; exact h.cl,by show ((S.lists.set _ _).set _ _).length=_; rw [List.length_set,List.length_set]; exact h.ll,fun i js hi=>?_,fun i j js hi hj=>?_⟩,fun j hj=>?_,fun j hj=>?_,h.shl,h.lel⟩
 ·rw [hH] at hj
  split at hj
  ·injection hj with hj; rw [←hj]; exact hdd
  ·exact h.hl j d' hj
 ·obtain ⟨ids,h1,rfl | ⟨rfl,_⟩⟩:=hL i js hi
  ·exact h.nd i _ h1
  ·exact List.nodup_append.2 ⟨h.nd i ids h1,by simp,fun x hx y hy=>by rw [List.mem_singleton.1 hy]; exact fun e=>hno i ids h1 (e ▸ hx)⟩
 ·rw [hH]
  obtain ⟨ids,h1,hh⟩:=hL i js hi
  have old:j∈ids→∃d1,(if k=j then some {d with e0:=a,e1:=c} else S.H[j]?)=some d1∧d1.e0∈d1.ls∧d1.e1∈d1.ls∧d1.e0≠d1.e1∧(i=idxN d1.e0∨i=idxN d1.e1):=fun hm=>by
   rw [if_neg (fun e:k=j=>hno i ids h1 (by rw [e]; exact hm))]
   exact h.w1 i j ids h1 hm
  rcases hh with rfl | ⟨rfl,hw⟩
  ·exact old hj
  ·rcases List.mem_append.1 hj with hj | hj
   ·exact old hj
   ·have ej:=List.mem_singleton.1 hj
    subst ej
    exact ⟨_,if_pos rfl,ha,hc,hne,hw⟩
 ·show j<(S.H.set k _).length; rw [List.length_set]; exact h.sh j hj
 ·show j<(S.H.set k _).length; rw [List.length_set]; exact h.le j hj
theorem WfS.ar (h:WfS S) (A:Arn.Ar):WfS {S with ar:=A}:=⟨⟨h.nv,h.hl,h.cl,h.ll,h.nd,h.w1⟩,h.sh,h.le,h.shl,h.lel⟩
theorem WfS.toShort (h:WfS S) {k:Nat} (hk:k<S.H.length) (hl:S.short.length+1≤8796093022208):WfS {S with short:=S.short++[k]}:=
 ⟨⟨h.nv,h.hl,h.cl,h.ll,h.nd,h.w1⟩,fun j hj=>by
  rcases List.mem_append.1 hj with hj | hj
  ·exact h.sh j hj
  ·rw [List.mem_singleton.1 hj]; exact hk,h.le,by show (S.short++[k]).length≤_; rw [List.length_append]; exact hl,h.lel⟩
theorem nodup_srt {L:List Int} (h:Srt L):L.Nodup:=h.imp fun {a b} hab e=>by rw [e] at hab; omega
theorem addC_wf (h:WfS S) {c:List Int} (hc:∀x∈c,Wi S.nv x) (hcl:S.H.length+1≤8796093022208) (hsl:S.short.length+1≤8796093022208):WfS (addC S c):=by
 have hf:∀x∈c,fl x=true:=fun x hx=>wi_fl h.nv (hc x hx)
 have hT:=tidyL_td hf
 have hdp:(∀x∈(tidHd S c).ls,Wi S.nv x)∧(tidHd S c).ls.Nodup∧(tidHd S c).ls.length≤2097153∧0≤(tidHd S c).at_:=
  ⟨fun x hx=>hc x ((hT.mem x).1 hx).1,nodup_srt hT.srt,hT.len,by show 0≤atN S; unfold atN; omega⟩
 have h1:WfS (putAr S c):=h.ar _
 unfold addC
 split
 ·exact h1
 ·have h2:WfS {putAr S c with H:=S.H++[tidHd S c]}:=WfS.snocH (S:=putAr S c) h1 hdp hcl
  have hlen:S.H.length<(S.H++[tidHd S c]).length:=by rw [List.length_append]; simp
  split
  ·exact WfS.toShort (S:={putAr S c with H:=S.H++[tidHd S c]}) h2 hlen hsl
  ·rename_i hge
   refine h2.watch (k:=S.H.length) (d:=tidHd S c) (by show (S.H++[tidHd S c])[S.H.length]?=_; rw [List.getElem?_append_right (Nat.le_refl _),Nat.sub_self]; rfl) (fun i ids hi hk=>by have:=h.lt1 hi hk; omega) ?_ ?_ ?_
   all_goals (
    have e:∃x y zs,tidyL c=x :: y :: zs:=by
     cases ht:tidyL c with
     | nil=>rw [ht] at hge; simp at hge
     | cons x xs=>cases xs with
      | nil=>rw [ht] at hge; simp at hge
      | cons y zs=>exact ⟨x,y,zs,rfl⟩
    obtain ⟨x,y,zs,e⟩:=e
    have els:(tidHd S c).ls=x :: y :: zs:=e
    have hnd:=hdp.2.1
    rw [els] at hnd
    rw [e])
   ·rw [els]; simp
   ·rw [els]; simp
   ·rw [List.nodup_cons] at hnd
    show x≠y
    intro e; subst e; exact hnd.1 (by simp)
end
end Go.Proofs.YtmhjehodfggleaaGreat.Eng

/- An Engine in memory: the formula's clauses put into it. -/

set_option linter.unusedVariables false
set_option linter.unusedSimpArgs false
set_option linter.unusedSectionVars false
set_option maxRecDepth 100000
namespace Go.Proofs.YtmhjehodfggleaaGreat.Eng
open Go Go.Proofs.YtmhjehodfggleaaGreat.Vc Go.Proofs.YtmhjehodfggleaaGreat.T
open Go.Proofs.YtmhjehodfggleaaGreat.Apart (RdL own_rdl wrap_nat getE own_len take_snoc Sl sv New LL)
open Go.Proofs.YtmhjehodfggleaaGreat.Lits (fl fl_iff Ans ans_of formedP idx idx_range idx_inj indexP Td Srt)
open Go.Proofs.YtmhjehodfggleaaGreat.Arn (Ar AR words off cw Got)
open Go.Proofs.YtmhjehodfggleaaGreat.Trail (TI Tr St valA levA reaA ownB Moved TLaid above upto freeA implA Open ent)
def NewL (b2 b25:Nat) (w7:World) (R:Value→World→Prop):Prop:=
    ldC w7 ((⟨b2,0,none⟩:Addr).add 1) fun x27 x27n x27c=>
    lp (σ:=Int×Unit) (fun s30 w8 k29=>match s30 with
     | (v28,_)=>
     pif (decide (v28<(x27n:Int))) (
      jn (σ:=Unit) (fun k32=>
       ixA x27 x27n v28 1 fun p35=>
       ldC w8 p35 fun x36 x36n x36c=>
       ldP w8 ((⟨b25,0,none⟩:Addr).add 1) fun x38=>
       cl Tryz.prog 45 [.pointer x38,.slice x36 x36n x36c,.bool false] w8 fun e41 w10=>∃x39:Int,∃x40:Int,e41=Ending.returned (.tuple #[.int .i64 x39,.int .i64 x40])∧
       cl Tryz.prog 46 [.slice x36 x36n x36c] w10 fun e44 w11=>∃x43:Bool,e44=Ending.returned (.bool x43)∧
       pif x43 (
        k32 (()) w11) (
        cl Tryz.prog 47 [.slice x36 x36n x36c] w11 fun e47 w12=>∃(x46:Option Addr) (x46n x46c:Nat),e47=Ending.returned (.slice x46 x46n x46c)∧
        alc w12 [.int .i64 x39,.slice x46 x46n x46c,.int .i64 0,.int .i64 0,.bool false] 113 fun b48 w13=>
        ldC w13 ((⟨b48,0,none⟩:Addr).add 1) fun x50 x50n x50c=>
        pif (decide ((x50n:Int)<2)) (
         ldC w13 ((⟨b25,0,none⟩:Addr).add 5) fun x52 x52n x52c=>
         alc w13 [.pointer (some (⟨b48,0,none⟩:Addr))] 110 fun b53 w14=>
         ∃(x54:Option Addr) (x54n x54c:Nat),∃w15:World,(Builtin.append_ #[101,101] 101 #[.slice x52 x52n x52c,.slice (some (⟨b53,0,none⟩:Addr)) 1 1]).run Tryz.prog w14=.ok (.slice x54 x54n x54c) w15∧
         st w15 (((⟨b25,0,none⟩:Addr).add 5).add 0) (.slice x54 x54n x54c) fun w16=>
         k32 (()) w16) (
         ldC (World.drew w13) ((⟨b48,0,none⟩:Addr).add 1) fun x55 x55n x55c=>
         ixA x55 x55n 0 1 fun p56=>
         ldI .i64 (World.drew w13) p56 fun x57=>
         ldC (World.drew w13) ((⟨b48,0,none⟩:Addr).add 1) fun x58 x58n x58c=>
         ixA x58 x58n 1 1 fun p59=>
         ldI .i64 (World.drew w13) p59 fun x60=>
         cl Tryz.prog 48 [.pointer (some (⟨b25,0,none⟩:Addr)),.pointer (some (⟨b48,0,none⟩:Addr)),.int .i64 x57,.int .i64 x60] (World.drew w13) fun e61 w17=>e61=Ending.returned (.tuple #[])∧
         k32 (()) w17))) fun s33 w9=>match s33 with
      | (_)=>
      k29 ((IntKind.wrap .i64 (v28+1)),()) w9) (
      R (.tuple #[.pointer (some (⟨b25,0,none⟩:Addr)),.int .i64 0]) w8)) (0,()) w7
def Nx2 (w:World) (b:Nat) (o:Nat→Int) (S':ES) (w':World):Prop:=∃o' h',Rp noEx w' b o' h' S'∧Ag w o o'∧Keep (fun i=>tMine (o i)) w w'
theorem addC_ar (S:ES) (c:List Int):(addC S c).ar=(putAr S c).ar∧(addC S c).nv=S.nv∧(addC S c).H.length≤S.H.length+1∧(addC S c).short.length≤S.short.length+1:=by
 have hl:(S.H++[tidHd S c]).length=S.H.length+1:=by rw [List.length_append]; rfl
 unfold addC
 split
 ·exact ⟨rfl,rfl,Nat.le_succ _,Nat.le_succ _⟩
 ·split
  ·exact ⟨rfl,rfl,by show (S.H++[tidHd S c]).length≤_; omega,by show (S.short++[S.H.length]).length≤_; rw [List.length_append]; exact Nat.le_refl _⟩
  ·exact ⟨rfl,rfl,by show ((S.H++[tidHd S c]).set _ _).length≤_; rw [List.length_set]; omega,Nat.le_succ _⟩
structure NI (S:ES) (i:Nat):Prop where
 wf:WfS S
 h:S.H.length≤i
 s:S.short.length≤i
 a:S.ar.cs.length≤i
 w:(words S.ar.cs).length≤i*1048577
theorem NI.step {S:ES} {i:Nat} (h:NI S i) {c:List Int} (hc:∀x∈c,Wi S.nv x) (hl:c.length≤1048576) (hi:i<1048576):NI (addC S c) (i+1):=by
 obtain ⟨e1,e2,e3,e4⟩:=addC_ar S c
 refine ⟨addC_wf h.wf hc (by have:=h.h; omega) (by have:=h.s; omega),by have:=h.h; omega,by have:=h.s; omega,?_,?_⟩
 ·rw [e1]; show (S.ar.cs++[c]).length≤_; rw [List.length_append]; have:=h.a; simp only [List.length_singleton]; omega
 ·rw [e1]; show (words (S.ar.cs++[c])).length≤_; rw [Arn.words_snoc,List.length_append]; have:=h.w; simp only [cw,List.length_cons]; omega
theorem newL {w:World} {b2 b:Nat} {o:Nat→Int} {h:Hs} {S:ES} (hR:Rp noEx w b o h S) (hN:NI S 0) {B:Nat→Prop} {p:Option Addr} {n c:Nat} {css:List (List Int)} (hb2:w.cell? ⟨b2,1,none⟩=some (.slice p n c)) (hC:RdC B w p n css) (hB:∀j,B j→o j=-9∧j<w.heap.size)
  (hn:css.length≤1048576) (hl:∀es∈css,es.length≤1048576) (hw:∀es∈css,∀x∈es,Wi S.nv x) {R:Value→World→Prop}
  (hK:∀w',Nx2 w b o (css.foldl addC S) w'→R (.tuple #[Pt b,I 0]) w'):NewL b2 b w R:=by
 unfold NewL
 have hcl:=hC.len
 refine ldC_of (by rw [add_mk]; exact hb2) ?_
 refine lp_of (fun s W=>∃(i:Nat) (S1:ES) (o1:Nat→Int) (h1:Hs),s.1=(i:Int)∧i≤css.length∧(css.take i).foldl addC S=S1∧NI S1 i∧S1.nv=S.nv∧Rp noEx W b o1 h1 S1∧Ag w o o1∧Keep (fun i=>tMine (o i)) w W) (fun s _=>(css.length - s.1).toNat)
  ⟨0,S,o,h,rfl,Nat.zero_le _,rfl,hN,rfl,hR,Ag.refl _ _,(Keep.refl None _).none⟩ ?_
 rintro ⟨i',⟨⟩⟩ W ⟨i,S1,o1,h1,rfl,hi,hfo,hNI,hnv1,hRi,hai,kWi⟩
 dsimp only
 refine pif_of (fun hlt=>?_) fun hge=>?_
 ·have hlt:i<css.length:=by
   have:(i:Int)<(n:Int):=by simpa using hlt
   omega
  rw [wrap_nat i (by omega)]
  obtain ⟨es,hes⟩:=getE hlt
  have hem:=List.mem_of_getElem? hes
  have hel:=hl es hem
  have hew:∀x∈es,Wi S1.nv x:=by rw [hnv1]; exact hw es hem
  have hnvb:=hRi.nv
  have hef:∀x∈es,fl x=true:=fun x hx=>wi_fl hnvb (hew x hx)
  have hstep:=hNI.step hew hel (by omega)
  have efo:(css.take (i+1)).foldl addC S=addC S1 es:=by rw [take_snocN hes,List.foldl_append,hfo]; rfl
  have hnv2:(addC S1 es).nv=S.nv:=(addC_ar S1 es).2.1.trans hnv1
  have zW:=kWi.size
  have hBm:∀j,B j→¬tMine (o j):=fun j hj hh=>hh (hB j hj).1
  have hB1:∀j,B j→o1 j=-9∧j<W.heap.size:=fun j hj=>⟨by rw [hai j (hB j hj).2]; exact (hB j hj).1,by have:=(hB j hj).2; omega⟩
  have hCW:=hC.keep kWi hBm
  refine ⟨fun _ W'=>∃(o2:Nat→Int) (h2:Hs),Rp noEx W' b o2 h2 (addC S1 es)∧Ag w o o2∧Keep (fun i=>tMine (o i)) w W',?_,?_⟩
  rotate_left
  ·rintro ⟨⟩ W' ⟨o2,h2,r2,a2,k2⟩
   exact ⟨⟨i+1,addC S1 es,o2,h2,rfl,hlt,efo,hstep,hnv2,r2,a2,k2⟩,by omega⟩
  refine hCW.ix hes fun a q m cc ha hRd hqB hqn=>ldC_of ha (ldP_of (x:=some ⟨h1.st,0,none⟩) (by rw [add_mk]; exact hRi.self.cell 1) ?_)
  have hml:=hRd.len
  have hNw:News W 1 q m cc (es.map I):=by
   cases q with
   | none=>
    obtain ⟨e1,e2⟩:=rdl_none hRd
    subst e1; subst e2
    exact Or.inl ⟨rfl,rfl,hqn rfl,rfl⟩
   | some a=>exact rdl_news hRd
  have hwd:=hNI.w
  have hac:=hNI.a
  refine cl_of ok45 (putA hRi hRd hNw (by omega) (fun j hj h0 hh=>by rw [(hB1 j (hqB j hj h0)).1] at hh; exact absurd hh (by decide)) hef (by
   have:i*1048577≤1048576*1048577:=Nat.mul_le_mul_right _ (by omega)
   omega) (by omega) false) fun e w10 ⟨he,hN10⟩=>⟨_,_,he,?_⟩
  obtain ⟨o10,h10,r10,a10,k10,e10,n10⟩:=hN10.nine (by decide)
  have a010:Ag w o o10:=hai.trans a10 zW
  have kk10:=keep_nine (T:=tAr) (by decide) kWi hai k10
  have z10:=k10.size
  have hRd10:RdL w10 q m es:=rdl_keep hRd k10 fun j hj h0 hh=>by
   have hh':o1 j=-2:=hh
   rw [(hB1 j (hqB j hj h0)).1] at hh'; exact absurd hh' (by decide)
  refine cl_of ok46 (taut42 hRd10 (by omega) hef) fun e w11 ⟨r,he,hr,k11⟩=>⟨r,he,?_⟩
  have r11:=r10.keep0 k11
  have kk11:=kk10.then0 k11
  have etb:tautB es=r:=by
   rw [Bool.eq_iff_iff,tautB_iff]; exact hr.symm
  cases r with
  | true=>
   refine pif_t rfl ⟨o10,h10,?_,a010,kk11⟩
   have:addC S1 es=putAr S1 es:=by unfold addC; rw [if_pos etb]
   rw [this]; exact r11
  | false=>
   have etn:¬tautB es=true:=by rw [etb]; decide
   refine pif_f rfl (cl_of ok47 (Lits.tidyP (rdl_keep hRd10 k11 fun _ _ _ h=>h) (by omega)) fun e w12 ⟨v,L,he,hT,tp,tc,hv,hO12,htn,k12⟩=>?_)
   subst hv
   have eL:L=tidyL es:=hT.uniq (tidyL_td hef) fun x _=>Iff.rfl
   subst eL
   refine ⟨tp,_,tc,he,?_⟩
   have k1012:=k11.then0 k12
   have z12:=k1012.size
   have z11:=k11.size
   refine alc_at fun b48 w13 hb48 hB13 k13=>?_
   have z13:=k13.size
   have k1013:=k1012.then0 k13
   have r13:=r10.keep0 k1013
   have htl:=hO12.lt
   have hlls:∀(i:Nat) (ids:List Nat),S1.lists[i]?=some ids→∀k∈ids,k<S1.H.length:=fun i ids hi k hk=>hNI.wf.lt1 hi hk
   have hOt:=hO12.keep0 k13
   obtain ⟨o13,h13,r13',t13,hbk,hbo,est,ebk⟩:=r13.addHeld (bb:=b48) (x:=(tp,(tidyL es).length,tc)) (d:=tidHd S1 es) hB13 (r10.nrm b48 (by omega)) (own_rdl hOt) (fun j hj=>⟨r10.nrm j (by have:=htn j hj; omega),by have:=htl j hj; omega,by have:=htl j hj; omega⟩) hlls hNI.wf.sh hNI.wf.le
   have hbk:h13.hb S1.H.length=b48:=hbk
   have a13:Ag w10 o10 o13:=fun j hj=>by
    rcases t13 j with h1 | h1 | h1
    ·exact h1
    ·omega
    ·have:=htn j h1; omega
   have a013:Ag w o o13:=a010.trans a13 (by omega)
   have kk13:=kk10.then0 k1013
   have c1:∀{V:World} {K:Option Addr→Nat→Nat→Prop},Keep None w13 V→K tp (tidyL es).length tc→ldC V ((⟨b48,0,none⟩:Addr).add 1) K:=fun {V K} hk hK=>by
    rw [add_mk]; exact ldC_of ((hB13.keep0 hk).cell 1) hK
   refine c1 (Keep.refl _ _) ?_
   have hdK:((putAr S1 es).H++[tidHd S1 es])[S1.H.length]?=some (tidHd S1 es):=by
    show (S1.H++[_])[S1.H.length]?=_
    rw [List.getElem?_append_right (Nat.le_refl _),Nat.sub_self]; rfl
   refine pif_of (fun hq=>?_) fun hq=>?_
   ·have hq:(tidyL es).length<2:=by
     have:((tidyL es).length:Int)<2:=by simpa using hq
     omega
    have hP:=pushSh r13' (k:=S1.H.length) (by have:=hNI.s; show S1.short.length≤_; omega) (K:=fun W'=>∃(o2:Nat→Int) (h2:Hs),Rp noEx W' b o2 h2 (addC S1 es)∧Ag w o o2∧Keep (fun i=>tMine (o i)) w W') fun w16 ⟨o16,h16,r16,a16,k16,e16⟩=>⟨o16,h16,?_,a013.trans a16 (by omega),keep_nine (T:=tSh) (by intro hh; rcases hh with hh | hh<;>omega) kk13 a013 k16⟩
    ·rw [hbk] at hP
     exact hP
    ·have:addC S1 es={putAr S1 es with H:=S1.H++[tidHd S1 es],short:=S1.short++[S1.H.length]}:=by unfold addC; rw [if_neg etn,if_pos hq]
     rw [this]; exact r16
   ·have hq:¬(tidyL es).length<2:=by
     have:¬((tidyL es).length:Int)<2:=by simpa using hq
     omega
    have kd:Keep None w13 w13.drew:=(Keep.refl _ _).drew
    have hRt:=own_rdl (hOt.keep0 kd)
    refine c1 kd (hRt.ix (i:=0) (by show 0<(tidyL es).length; omega) fun a x hx ha=>ldI_of ha (c1 kd ?_))
    refine hRt.ix (i:=1) (by show 1<(tidyL es).length; omega) fun a' y hy ha'=>ldI_of ha' ?_
    have hx1:(tidyL es).headD 0=x:=by
     cases ht:tidyL es with
     | nil=>rw [ht] at hx; simp at hx
     | cons z zs=>rw [ht] at hx; simpa using hx
    have hy1:(tidyL es).tail.headD 0=y:=by
     cases ht:tidyL es with
     | nil=>rw [ht] at hy; simp at hy
     | cons z zs=>cases zs with
      | nil=>rw [ht] at hy; simp at hy
      | cons z' zs'=>rw [ht] at hy; simpa using hy
    have hxw:Wi S1.nv x:=hew x ((hT.mem x).1 (List.mem_of_getElem? hx)).1
    have hyw:Wi S1.nv y:=hew y ((hT.mem y).1 (List.mem_of_getElem? hy)).1
    have rd:=r13'.keep0 kd
    have h28:=watch28 rd (k:=S1.H.length) (d:=tidHd S1 es) hdK (a:=x) (c:=y) hxw hyw (fun i ids hi=>by have:=hNI.wf.len (i:=i) (ids:=ids) hi; have:=hNI.h; omega) (fun hh=>hh) (fun hh=>hh)
    rw [hbk] at h28
    refine cl_of ok48 h28 fun e w17 ⟨he,o17,h17,r17,a17,k17,e17⟩=>⟨he,o17,h17,?_,?_,keep_nine (T:=tWat) (by intro hh; rcases hh with hh | hh | hh<;>omega) (kk13.then0 kd) a013 k17⟩
    ·have:addC S1 es=watchS {putAr S1 es with H:=S1.H++[tidHd S1 es]} S1.H.length (tidHd S1 es) x y:=by unfold addC; rw [if_neg etn,if_neg hq,hx1,hy1]
     rw [this]; exact r17
    ·exact a013.trans a17 (by have:=kd.size; omega)
 ·have hge:i=css.length:=by
   have:¬(i:Int)<(n:Int):=by simpa using hge
   omega
  subst hge
  rw [List.take_length] at hfo
  refine hK W ⟨o1,h1,?_,hai,kWi⟩
  rw [hfo]; exact hRi
end Go.Proofs.YtmhjehodfggleaaGreat.Eng

/- An Engine in memory: New whole. -/

set_option linter.unusedVariables false
set_option linter.unusedSimpArgs false
set_option linter.unusedSectionVars false
set_option maxRecDepth 100000
namespace Go.Proofs.YtmhjehodfggleaaGreat.Eng
open Go Go.Proofs.YtmhjehodfggleaaGreat.Vc Go.Proofs.YtmhjehodfggleaaGreat.T
open Go.Proofs.YtmhjehodfggleaaGreat.Apart (RdL own_rdl wrap_nat getE own_len take_snoc Sl sv New LL)
open Go.Proofs.YtmhjehodfggleaaGreat.Lits (fl fl_iff Ans ans_of formedP idx idx_range idx_inj indexP Td Srt)
open Go.Proofs.YtmhjehodfggleaaGreat.Arn (Ar AR words off cw Got)
open Go.Proofs.YtmhjehodfggleaaGreat.Trail (TI Tr St valA levA reaA ownB Moved TLaid above upto freeA implA Open ent TRep VR New9)
structure Parts (base:Nat) (W:World) (nv:Nat) (s:Nat) (M:Nat→Prop) (T:TI) (lb bk:Nat):Prop where
 ar:AR M W s ⟨[],[]⟩
 mB:∀i,M i→base≤i
 tr:TRep W T [] [] (List.replicate nv 0) (List.replicate nv (0,0))
 tB:∀i,T.F i→base≤i
 tL:∀i,T.F i→i<W.heap.size
 l:Blk W lb (List.replicate (2*nv) (.slice none 0 0)) 101
 kB:Blk W bk [.slice none 0 0] 100
 lB:base≤lb
 bB:base≤bk
 d1:∀i,M i→¬T.F i∧i≠lb∧i≠bk
 d2:∀i,T.F i→i≠lb∧i≠bk
 d3:lb≠bk
def engCells (nv s:Nat) (T:TI) (lb bk:Nat):List Value:=[I nv,Pt s,Pt T.t,.slice none 0 0,.slice (some ⟨lb,0,none⟩) (2*nv) (2*nv),.slice none 0 0,.slice none 0 0,.iface 98 (Pt bk),I 0,.bool false,.bool false,.bool false,I 0]
def E0 (nv:Nat):ES:=⟨nv,⟨[],[]⟩,[],[],List.replicate (2*nv) [],[],[],[],[],0,false,false,false,0⟩
theorem ob_none {i:Nat} : ¬ob none i:=fun ⟨a,h,_⟩=>by cases h
theorem vr_nil (nv:Nat):VR nv [] (List.replicate nv 0) (List.replicate nv (0,0)):=
 ⟨by simp,by simp,fun v h1 h2=>by
  rw [Trail.sg_ent]
  show (List.replicate nv (0:Int)).getD (v - 1) 0=0
  rw [List.getD_eq_getElem?_getD,List.getElem?_replicate]
  split<;>rfl,fun e he=>by cases he⟩
theorem Parts.rp {base:Nat} {W:World} {nv s:Nat} {M:Nat→Prop} {T:TI} {lb bk b:Nat} (P:Parts base W nv s M T lb bk) (hnv:nv≤1048576) (hB:Blk W b (engCells nv s T lb bk) 106) (hb:base≤b) (hn:¬M b∧¬T.F b∧b≠lb∧b≠bk) :
  ∃o h,Rp noEx W b o h (E0 nv)∧∀j,j<base→o j=-9:=by
 let o:Nat→Int:=fun j=>open Classical in if j=b then -1 else if M j then -2 else if T.F j then -3 else if j=lb then -5 else if j=bk then -8 else -9
 have oM:∀{i},M i→o i=-2:=fun {i} hi=>by
  show (open Classical in if i=b then (-1:Int) else if M i then -2 else _)=-2
  rw [if_neg (fun e:i=b=>hn.1 (e ▸ hi)),if_pos hi]
 have oT:∀{i},T.F i→o i=-3:=fun {i} hi=>by
  show (open Classical in if i=b then (-1:Int) else if M i then -2 else if T.F i then -3 else _)=-3
  rw [if_neg (fun e:i=b=>hn.2.1 (e ▸ hi)),if_neg fun hm=>(P.d1 i hm).1 hi,if_pos hi]
 have oL:o lb=-5:=by
  show (open Classical in if lb=b then (-1:Int) else if M lb then -2 else if T.F lb then -3 else if lb=lb then -5 else _)=-5
  rw [if_neg (Ne.symm hn.2.2.1),if_neg fun hm=>(P.d1 _ hm).2.1 rfl,if_neg fun hm=>(P.d2 _ hm).1 rfl,if_pos rfl]
 have oB:o bk=-8:=by
  show (open Classical in if bk=b then (-1:Int) else if M bk then -2 else if T.F bk then -3 else if bk=lb then -5 else if bk=bk then -8 else _)=-8
  rw [if_neg (Ne.symm hn.2.2.2),if_neg fun hm=>(P.d1 _ hm).2.2 rfl,if_neg fun hm=>(P.d2 _ hm).2 rfl,if_neg (Ne.symm P.d3),if_pos rfl]
 have hbl:=hB.lt
 have hll:=P.l.lt
 have hbkl:=P.kB.lt
 have oN:∀j,(j<base∨W.heap.size≤j)→o j=-9:=fun j hj=>by
  show (open Classical in if j=b then (-1:Int) else if M j then -2 else if T.F j then -3 else if j=lb then -5 else if j=bk then -8 else -9)=-9
  have:=P.lB
  have:=P.bB
  rw [if_neg (by omega),if_neg fun hm=>by have:=P.mB j hm; have:=P.ar.lt j hm; omega,if_neg fun hm=>by have:=P.tB j hm; have:=P.tL j hm; omega,if_neg (by omega),if_neg (by omega)]
 refine ⟨o,⟨s,T,(none,0,0),(some ⟨lb,0,none⟩,2*nv,2*nv),List.replicate (2*nv) (none,0,0),(none,0,0),(none,0,0),bk,(none,0,0),[],fun _=>0,fun _=>(none,0,0)⟩,
  ⟨hB,if_pos rfl,ar_grow P.ar (fun i hi=>⟨oM hi,P.ar.lt i hi⟩) fun i hi=>hi.2,⟨_,_,P.tr,.nil,vr_nil nv⟩,fun i hi=>oT hi,Own.nil _ _ _,fun i hi=>absurd hi ob_none,?_,fun i hi=>?_,List.length_replicate,List.length_replicate,
   fun i x ids hx hi _=>?_,fun i x hx j hj=>?_,Own.nil _ _ _,fun i hi=>absurd hi ob_none,Own.nil _ _ _,fun i hi=>absurd hi ob_none,P.kB,oB,Own.nil _ _ _,fun i hi=>absurd hi ob_none,rfl,fun i x y hx=>by simp [E0] at hx,fun i d hd=>by simp [E0] at hd,fun i j hi=>by simp [E0] at hi,fun j hj=>oN j (Or.inr hj)⟩,fun j hj=>oN j (Or.inl hj)⟩
 ·refine Or.inr ⟨lb,_,rfl,P.l,Nat.le_refl _,by simp only [maxLen]; omega,by simp,?_⟩
  rw [List.map_replicate,Nat.mul_one,List.take_of_length_le (by simp)]
  rfl
 ·obtain ⟨a,ha,rfl⟩:=hi
  cases ha
  exact oL
 ·have hx':(List.replicate (2*nv) ((none,0,0):Sl))[i]?=some x:=hx
  have hi':(List.replicate (2*nv) ([]:List Nat))[i]?=some ids:=hi
  rw [List.getElem?_replicate] at hx' hi'
  split at hx'
  ·rw [if_pos (by assumption)] at hi'
   injection hx' with hx'; injection hi' with hi'
   subst hx'; subst hi'
   exact Own.nil _ _ _
  ·cases hx'
 ·have hx':(List.replicate (2*nv) ((none,0,0):Sl))[i]?=some x:=hx
  rw [List.getElem?_replicate] at hx'
  split at hx'
  ·injection hx' with hx'
   subst hx'
   exact absurd hj ob_none
  ·cases hx'
theorem ni0 {nv:Nat} (hnv:nv≤1048576):NI (E0 nv) 0:=by
 have hl:∀{i:Nat} {ids:List Nat},(E0 nv).lists[i]?=some ids→ids=[]:=fun {i ids} hi=>by
  have hi':(List.replicate (2*nv) ([]:List Nat))[i]?=some ids:=hi
  rw [List.getElem?_replicate] at hi'
  split at hi'
  ·injection hi' with hi'; exact hi'.symm
  ·cases hi'
 exact ⟨⟨⟨hnv,fun k d hk=>by simp [E0] at hk,Nat.zero_le _,List.length_replicate,fun i ids hi=>by rw [hl hi]; exact List.nodup_nil,fun i k ids hi hk=>by rw [hl hi] at hk; cases hk⟩,(fun k hk=>by cases hk),(fun k hk=>by cases hk),Nat.zero_le _,Nat.zero_le _⟩,Nat.le_refl _,Nat.le_refl _,Nat.le_refl _,Nat.le_refl _⟩
theorem newEnd {base:Nat} {w W:World} {nv s:Nat} {M:Nat→Prop} {T:TI} {lb bk b2:Nat} (P:Parts base W nv s M T lb bk) (hnv:nv≤1048576) (hk:Keep None w W) (hbase:w.heap.size≤base) {B:Nat→Prop} {p:Option Addr} {n c:Nat} {css:List (List Int)} (hb2:W.cell? ⟨b2,1,none⟩=some (.slice p n c)) (hC:RdC B w p n css) (hB:∀j,B j→j<w.heap.size)
  (hn:css.length≤1048576) (hl:∀es∈css,es.length≤1048576) (hw:∀es∈css,∀x∈es,Wi nv x) {R:Value→World→Prop}
  (hK:∀w' b o h,Rp noEx w' b o h (newE nv css)→Keep None w w'→(∀j,j<w.heap.size→o j=-9)→R (.tuple #[Pt b,I 0]) w'):alc W (engCells nv s T lb bk) 106 fun b25 w7=>NewL b2 b25 w7 R:=by
 refine alc_at fun b w7 hb hB7 k7=>?_
 have z:=hk.size
 have z7:=k7.size
 have hlb:=P.l.lt
 have hbk:=P.kB.lt
 have hbs:base≤b:=by have:=P.lB; omega
 have P7:Parts base w7 nv s M T lb bk:=⟨P.ar.keep0 k7,P.mB,P.tr.keep k7 (fun _ _ h=>h),P.tB,fun i hi=>by have:=P.tL i hi; omega,P.l.keep0 k7,P.kB.keep0 k7,P.lB,P.bB,P.d1,P.d2,P.d3⟩
 obtain ⟨o,h,hR,ho⟩:=P7.rp hnv hB7 hbs ⟨fun hm=>by have:=P.ar.lt b hm; omega,fun hm=>by have:=P.tL b hm; omega,by omega,by omega⟩
 have kw7:=hk.then0 k7
 refine newL hR (ni0 hnv) (k7.cell hb2 fun h=>h) (hC.keep kw7 fun _ _ h=>h) (fun j hj=>⟨ho j (by have:=hB j hj; omega),by have:=hB j hj; have:=kw7.size; omega⟩) hn hl hw fun w' ⟨o',h',r',a',k'⟩=>?_
 refine hK w' b o' h' r' ?_ fun j hj=>?_
 ·exact kw7.trans k' fun j hj hh=>(hh (ho j (by omega))).elim
 ·rw [a' j (by have:=kw7.size; omega)]; exact ho j (by omega)
end Go.Proofs.YtmhjehodfggleaaGreat.Eng

/- An Engine in memory: New whole. -/

set_option linter.unusedVariables false
set_option linter.unusedSimpArgs false
set_option linter.unusedSectionVars false
set_option maxRecDepth 100000
namespace Go.Proofs.YtmhjehodfggleaaGreat.Eng
open Go Go.Proofs.YtmhjehodfggleaaGreat.Vc Go.Proofs.YtmhjehodfggleaaGreat.T
open Go.Proofs.YtmhjehodfggleaaGreat.Apart (RdL own_rdl wrap_nat getE own_len take_snoc Sl sv New LL)
open Go.Proofs.YtmhjehodfggleaaGreat.Lits (fl fl_iff Ans ans_of formedP idx idx_range idx_inj indexP Td Srt)
open Go.Proofs.YtmhjehodfggleaaGreat.Arn (Ar AR words off cw Got)
open Go.Proofs.YtmhjehodfggleaaGreat.Trail (TI Tr St valA levA reaA ownB Moved TLaid above upto freeA implA Open ent TRep VR New9)
def NewA (w:World) (nv:Int) (css:List (List Int)) (v:Value) (w':World):Prop:=
 (¬FormedF nv css∧v=.tuple #[.pointer none,I 1]∧Keep None w w')∨
 (FormedF nv css∧∃b o h,v=.tuple #[Pt b,I 0]∧Rp noEx w' b o h (newE nv.toNat css)∧Keep None w w'∧∀j,j<w.heap.size→o j=-9)
theorem new5 {B:Nat→Prop} {w:World} {nv:Int} {p:Option Addr} {n c:Nat} {css:List (List Int)} (hC:RdC B w p n css) (hB:∀j,B j→j<w.heap.size) (hn:css.length≤1048576) (hl:∀es∈css,es.length≤1048576) :
  Calls Tryz.prog 9 #[.agg #[I nv,.slice p n c]] w fun e w'=>∃v,e=.returned v∧NewA w nv css v w':=by
 refine V9_calls nv p n c w (NewA w nv css) ?_
 unfold V9
 have hcl:=hC.len
 refine alc_at fun b2 w1 hb2 hB2 k1=>?_
 have z1:=k1.size
 have c0:∀{V:World} {K:Int→Prop},Keep None w1 V→K nv→ldI .i64 V ((⟨b2,0,none⟩:Addr).add 0) K:=fun {V K} hk hK=>by
  rw [add_mk]; exact ldI_of ((hB2.keep0 hk).cell 0) hK
 have c1:ldC w1 ((⟨b2,0,none⟩:Addr).add 1)=ldC w1 ((⟨b2,0,none⟩:Addr).add 1):=rfl
 refine c0 (Keep.refl _ _) (ldC_of (x:=p) (n:=n) (c:=c) (by rw [add_mk]; exact hB2.cell 1) ?_)
 refine cl_of ok42 (formed23 (hC.keep0 k1) (by omega) fun es hes=>by have:=hl es hes; omega) fun e w2 ⟨r,he,hr,k2⟩=>⟨r,he,?_⟩
 have k12:=k1.then0 k2
 refine pif_of (fun hq=>?_) fun hq=>?_
 ·have hq:r=false:=by simpa using hq
  exact Or.inl ⟨(fun hf=>by rw [hr.2 hf] at hq; cases hq),rfl,k12⟩
 have hq:r=true:=by simpa using hq
 have hF:=hr.1 hq
 obtain ⟨hf0,hf1,hfw⟩:=hF
 obtain ⟨m,rfl⟩:=Int.eq_ofNat_of_zero_le hf0
 refine c0 k2 ?_
 refine cl_of ok43 (Trail.new9 (m:Int) w2) fun e w3 ⟨v,he,k3,hv⟩=>?_
 rcases hv with ⟨hbad,_⟩ | ⟨_,T,hTF,rfl,hT⟩
 ·exact absurd ⟨hf0,hf1⟩ hbad
 rw [Int.toNat_natCast] at hT
 have hTr:Tr m w3 T [] []:=⟨_,_,hT,.nil,vr_nil m⟩
 refine ⟨_,_,he,?_⟩
 have kd3:Keep None w3 w3.drew:=(Keep.refl _ _).drew
 have k3d:=k3.then0 kd3
 have z2:=k2.size
 have z3:=k3.size
 have z3d:w3.drew.heap.size=w3.heap.size:=rfl
 have k23:=k2.then0 k3d
 have k03:=k1.then0 k23
 refine c0 k23 (c0 k23 ?_)
 have ew:IntKind.wrap .i64 (2*(m:Int))=2*(m:Int):=by rw [IntKind.wrap_i64]; omega
 rw [ew]
 have etn:(2*(m:Int)).toNat=2*m:=by omega
 -- the lists' list made
 have mkL:∀(W:World) {K:Option Addr→Nat→Nat→World→Prop},(∀lb W',lb=W.heap.size→Blk W' lb (List.replicate (2*m) (.slice none 0 0)) 101→Keep None W W'→K (some ⟨lb,0,none⟩) (2*m) (2*m) W')→
   ∃(p:Option Addr) (l' c:Nat),∃w':World,(Instr.makeSlice 97 (.int .i64 (2*(m:Int))) (.int .i64 (2*(m:Int)))).run Tryz.prog W=.ok (.slice p l' c) w'∧K p l' c w':=fun W {K} hK=>by
  refine Lits.mk2_of (B:=24) (z:=.slice none 0 0) Tryz.underlying97 (by kernel_rfl) rfl (by omega) (by omega) (by omega) (by omega) fun lb W' hlb hBl kl=>?_
  rw [etn] at hBl ⊢
  exact hK lb W' hlb hBl kl
 -- the end
 have fin:∀{W:World} {s:Nat} {M:Nat→Prop} {lb bk m0 m1:Nat},AR M W s ⟨[],[]⟩→(∀i,M i→m0≤i∧i<m1)→w3.heap.size≤m0→Blk W lb (List.replicate (2*m) (.slice none 0 0)) 101→Blk W bk [.slice none 0 0] 100→(lb<m0∨m1≤lb)→(bk<m0∨m1≤bk)→lb≠bk→w3.heap.size≤lb→w3.heap.size≤bk→Keep None w3 W→
   alc W (engCells m s T lb bk) 106 fun b25 w7=>NewL b2 b25 w7 (NewA w (m:Int) css):=by
  intro W s M lb bk m0 m1 hA hM hm0 hBl hBk h1 h2 h3 h4 h5 kW
  have zW:=kW.size
  have hlt:∀i,T.F i→w2.heap.size≤i∧i<w3.heap.size:=fun i hi=>⟨hTF i hi,hTr.lt i hi⟩
  have kall:Keep None w W:=((k1.then0 k2).then0 k3).then0 kW
  have kb:Keep None w1 W:=(k2.then0 k3).then0 kW
  refine newEnd (base:=w.heap.size) (w:=w) (M:=M) (T:=T) ⟨hA,fun i hi=>by have:=(hM i hi).1; omega,hT.keep kW (fun _ _ h=>h),fun i hi=>by have:=(hlt i hi).1; omega,fun i hi=>by have:=(hlt i hi).2; omega,hBl,hBk,by omega,by omega,fun i hi=>⟨fun ht=>?_,?_,?_⟩,fun i hi=>⟨?_,?_⟩,h3⟩ (by omega) kall (Nat.le_refl _) (p:=p) (n:=n) (c:=c) ((hB2.keep0 kb).cell 1) hC hB hn hl hfw fun w' b o h hR hk ho=>?_
  ·have:=(hM i hi).1; have:=(hlt i ht).2; omega
  ·have:=hM i hi; omega
  ·have:=hM i hi; omega
  ·have:=(hlt i hi).2; omega
  ·have:=(hlt i hi).2; omega
  ·exact Or.inr ⟨⟨hf0,hf1,hfw⟩,b,o,h,rfl,hR,hk,ho⟩
 refine ⟨?_,?_,?_⟩
 ·refine cl_of ok44 (Arn.new24 _) fun e w4 ⟨s,M,he,hA,hM,k4⟩=>⟨_,he,?_⟩
  have hML:=hA.lt
  have z4:=k4.size
  have k24:=k23.then0 k4
  refine ⟨c0 k24 rfl,c0 k24 rfl,?_,?_⟩
  ·refine mkL _ fun lb w5 hlb hBl k5=>?_
   have z5:=k5.size
   have k25:=k24.then0 k5
   have hll:=hBl.lt
   refine ⟨c0 k25 rfl,alc_at fun bk w6 hbk hBk k6=>?_⟩
   have k26:=k25.then0 k6
   refine ⟨c0 k26 rfl,c0 k26 rfl,?_⟩
   exact fin ((hA.keep0 k5).keep0 k6) (fun i hi=>⟨hM i hi,hML i hi⟩) (by omega) (hBl.keep0 k6) hBk (by omega) (by omega) (by omega) (by omega) (by omega) (((kd3.then0 k4).then0 k5).then0 k6)
  ·refine alc_at fun bk w5 hbk hBk k5=>?_
   have z5:=k5.size
   have k25:=k24.then0 k5
   have hll:=hBk.lt
   refine ⟨c0 k25 rfl,c0 k25 rfl,mkL _ fun lb w6 hlb hBl k6=>?_⟩
   have k26:=k25.then0 k6
   refine ⟨c0 k26 rfl,?_⟩
   exact fin ((hA.keep0 k5).keep0 k6) (fun i hi=>⟨hM i hi,hML i hi⟩) (by omega) hBl (hBk.keep0 k6) (by omega) (by omega) (by omega) (by omega) (by omega) (((kd3.then0 k4).then0 k5).then0 k6)
 ·refine mkL _ fun lb w4 hlb hBl k4=>?_
  have z4:=k4.size
  have k24:=k23.then0 k4
  have hll:=hBl.lt
  refine ⟨c0 k24 rfl,?_,?_⟩
  ·refine cl_of ok44 (Arn.new24 _) fun e w5 ⟨s,M,he,hA,hM,k5⟩=>⟨_,he,?_⟩
   have hML:=hA.lt
   have z5:=k5.size
   have k25:=k24.then0 k5
   refine ⟨c0 k25 rfl,c0 k25 rfl,alc_at fun bk w6 hbk hBk k6=>?_⟩
   have k26:=k25.then0 k6
   refine ⟨c0 k26 rfl,c0 k26 rfl,?_⟩
   exact fin (hA.keep0 k6) (fun i hi=>⟨hM i hi,hML i hi⟩) (by omega) ((hBl.keep0 k5).keep0 k6) hBk (by omega) (by omega) (by omega) (by omega) (by omega) (((kd3.then0 k4).then0 k5).then0 k6)
  ·refine alc_at fun bk w5 hbk hBk k5=>?_
   have z5:=k5.size
   have k25:=k24.then0 k5
   have hbl:=hBk.lt
   refine ⟨c0 k25 rfl,c0 k25 rfl,?_⟩
   refine cl_of ok44 (Arn.new24 _) fun e w6 ⟨s,M,he,hA,hM,k6⟩=>⟨_,he,?_⟩
   have hML:=hA.lt
   have z6:=k6.size
   have k26:=k25.then0 k6
   refine ⟨c0 k26 rfl,c0 k26 rfl,?_⟩
   exact fin hA (fun i hi=>⟨hM i hi,hML i hi⟩) (by omega) ((hBl.keep0 k5).keep0 k6) (hBk.keep0 k6) (by omega) (by omega) (by omega) (by omega) (by omega) (((kd3.then0 k4).then0 k5).then0 k6)
 ·refine alc_at fun bk w4 hbk hBk k4=>?_
  have z4:=k4.size
  have k24:=k23.then0 k4
  have hbl:=hBk.lt
  refine ⟨c0 k24 rfl,c0 k24 rfl,?_,?_⟩
  ·refine cl_of ok44 (Arn.new24 _) fun e w5 ⟨s,M,he,hA,hM,k5⟩=>⟨_,he,?_⟩
   have hML:=hA.lt
   have z5:=k5.size
   have k25:=k24.then0 k5
   refine ⟨c0 k25 rfl,c0 k25 rfl,mkL _ fun lb w6 hlb hBl k6=>?_⟩
   have k26:=k25.then0 k6
   refine ⟨c0 k26 rfl,?_⟩
   exact fin (hA.keep0 k6) (fun i hi=>⟨hM i hi,hML i hi⟩) (by omega) hBl ((hBk.keep0 k5).keep0 k6) (by omega) (by omega) (by omega) (by omega) (by omega) (((kd3.then0 k4).then0 k5).then0 k6)
  ·refine mkL _ fun lb w5 hlb hBl k5=>?_
   have z5:=k5.size
   have k25:=k24.then0 k5
   have hll:=hBl.lt
   refine ⟨c0 k25 rfl,?_⟩
   refine cl_of ok44 (Arn.new24 _) fun e w6 ⟨s,M,he,hA,hM,k6⟩=>⟨_,he,?_⟩
   have hML:=hA.lt
   have z6:=k6.size
   have k26:=k25.then0 k6
   refine ⟨c0 k26 rfl,c0 k26 rfl,?_⟩
   exact fin hA (fun i hi=>⟨hM i hi,hML i hi⟩) (by omega) (hBl.keep0 k6) ((hBk.keep0 k5).keep0 k6) (by omega) (by omega) (by omega) (by omega) (by omega) (((kd3.then0 k4).then0 k5).then0 k6)
end Go.Proofs.YtmhjehodfggleaaGreat.Eng
