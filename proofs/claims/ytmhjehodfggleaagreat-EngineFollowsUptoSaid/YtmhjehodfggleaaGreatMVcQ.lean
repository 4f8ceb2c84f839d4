/- An Engine in memory: watched literals written down; a clause moved to another list. -/

import Derived.Test.YtmhjehodfggleaaGreatMEng3
import Derived.Test.YtmhjehodfggleaaGreatProg
import Derived.Test.YtmhjehodfggleaaGreatMTTrail
import Derived.Laws.StructEq
set_option linter.unusedVariables false
set_option linter.unusedSimpArgs false
set_option linter.unusedSectionVars false
set_option maxRecDepth 100000
namespace Go.Proofs.YtmhjehodfggleaaGreat.Eng
open Go Go.Proofs.YtmhjehodfggleaaGreat.Vc Go.Proofs.YtmhjehodfggleaaGreat.T
open Go.Proofs.YtmhjehodfggleaaGreat.Apart (RdL own_rdl wrap_nat getE own_len take_snoc Sl sv New)
open Go.Proofs.YtmhjehodfggleaaGreat.Lits (fl fl_iff Ans ans_of formedP idx idx_range idx_inj indexP)
open Go.Proofs.YtmhjehodfggleaaGreat.Arn (Ar AR)
open Go.Proofs.YtmhjehodfggleaaGreat.Trail (TI Tr St valA levA reaA ownB Moved TLaid above upto freeA implA Open)
section
variable {ex:Nat→Prop} {w w':World} {b:Nat} {o:Nat→Int} {h:Hs} {S:ES}
theorem Rp.setHeld (hR:Rp ex w b o h S) {k:Nat} {d d':Hd} (hd:S.H[k]?=some d) (hls:d'.ls=d.ls) (hk:Keep (One (h.hb k)) w w') (hB:Blk w' (h.hb k) [I d'.at_,sv (h.hl k),I d'.e0,I d'.e1,.bool d'.gone] 113) (hs:w'.heap.size=w.heap.size):Rp ex w' b o h {S with H:=S.H.set k d'}:=by
 obtain ⟨_,h2,_,_⟩:=hR.held k d hd
 have hkl:=(List.getElem?_eq_some_iff.1 hd).1
 have kk:Keep (fun j=>(fun t:Int=>t=-12) (o j)) w w':=hk.mono fun j _ hj=>by rw [show j=h.hb k from hj]; exact h2
 refine ⟨blk_K (T:=fun t=>t=-12) hR.self hR.selfO kk (by decide),hR.selfO,Rp.arK (h:=h) (S:=S) (T:=fun t=>t=-12) hR kk (by decide),Rp.trK (h:=h) (S:=S) (T:=fun t=>t=-12) hR kk (by decide),hR.trO,own_K (T:=fun t=>t=-12) hR.oo hR.ooO kk (by decide),hR.ooO,own_K (T:=fun t=>t=-12) hR.out hR.outO kk (by decide),hR.outO,hR.hhl,hR.lsl,
  Rp.innK (h:=h) (S:=S) (T:=fun t=>t=-12) hR kk (fun i hi=>⟨hi,by omega⟩),Rp.innOK (h:=h) (S:=S) (T:=fun t=>t=-12) hR kk,own_K (T:=fun t=>t=-12) hR.sh hR.shO kk (by decide),hR.shO,own_K (T:=fun t=>t=-12) hR.le hR.leO kk (by decide),hR.leO,blk_K (T:=fun t=>t=-12) hR.bk hR.bkO kk (by decide),hR.bkO,own_K (T:=fun t=>t=-12) hR.lg hR.lgO kk (by decide),hR.lgO,hR.gll,
  Rp.glK (h:=h) (S:=S) (T:=fun t=>t=-12) hR kk (by decide),fun i d2 hd2=>?_,fun i j hi hj=>hR.inj i j (by simpa using hi) (by simpa using hj),fun j hj=>hR.nrm j (by rw [←hs]; exact hj)⟩
 have hd2':(S.H.set k d')[i]?=some d2:=hd2
 rw [List.getElem?_set] at hd2'
 by_cases hki:k=i
 ·subst hki
  rw [if_pos rfl,if_pos hkl] at hd2'
  injection hd2' with hd2'
  subst hd2'
  obtain ⟨_,_,h3,h4⟩:=hR.held k d hd
  exact ⟨hB,h2,by rw [hls]; exact h3.keep kk (fun j hj hh=>by have hh':o j=-12:=hh; rw [(h4 j hj).1] at hh'; exact absurd hh' (by decide)),fun j hj=>⟨(h4 j hj).1,by rw [hs]; exact (h4 j hj).2⟩⟩
 ·rw [if_neg hki] at hd2'
  obtain ⟨g1,g2,g3,g4⟩:=hR.held i d2 hd2'
  have hil:=(List.getElem?_eq_some_iff.1 hd2').1
  exact ⟨g1.keep hk fun hh=>hki (hR.inj k i hkl hil (show h.hb k=h.hb i from hh.symm)),g2,g3.keep kk (fun j hj hh=>by have hh':o j=-12:=hh; rw [(g4 j hj).1] at hh'; exact absurd hh' (by decide)),fun j hj=>⟨(g4 j hj).1,by rw [hs]; exact (g4 j hj).2⟩⟩
theorem setEyes (hR:Rp ex w b o h S) {k:Nat} {d:Hd} (hd:S.H[k]?=some d) {x y:Int} {K:World→Prop}
  (hK:∀w',Rp ex w' b o h {S with H:=S.H.set k {d with e0:=x,e1:=y}}→Keep (fun j=>o j=-12) w w'→w'.heap.size=w.heap.size→K w') :
  nn (some ⟨h.hb k,0,none⟩) fun p=>Vc.st w ((p.add 2).add 0) (.int .i64 x) fun w8=>Vc.st w8 ((p.add 2).add 1) (.int .i64 y) K:=by
 obtain ⟨hB,h2,_,_⟩:=hR.held k d hd
 refine nn_of ?_
 rw [add_mk,add_mk,add_mk]
 refine st_of hB (by simp) rfl fun w1 hB1 k1 z1=>?_
 refine st_of hB1 (by simp) rfl fun w2 hB2 k2 z2=>?_
 have kk:Keep (One (h.hb k)) w w2:=k1.trans k2 fun _ _ h=>h
 exact hK w2 (hR.setHeld (d':={d with e0:=x,e1:=y}) hd rfl kk hB2 (by rw [z2,z1])) (kk.mono fun j _ hj=>by rw [show j=h.hb k from hj]; exact h2) (by rw [z2,z1])
end
def goal (S:ES) (d:Hd) (l:Int):Option Int:=
 if 0<vl S (other d l) then none else d.ls.find? fun x=>decide (x≠other d l)&&(decide (x≠l)&&decide (0≤vl S x))
def moveS (S:ES) (k:Nat) (d:Hd) (l x:Int):ES:={S with H:=S.H.set k {d with e0:=other d l,e1:=x},lists:=S.lists.set (idxN x) ((S.lists[idxN x]?.getD [])++[k])}
def tMove (i:Nat) (t:Int):Prop:=t=-5∨t=-12∨t=i
theorem moved63 {ex : Nat → Prop} {w : World} {b : Nat} {o : Nat → Int} {h : Hs} {S : ES} (hR : Rp ex w b o h S) {k : Nat} {d : Hd} (hd : S.H[k]? = some d) {l : Int} (hl : -9223372036854775808 ≤ l) (ho : -9223372036854775808 ≤ other d l) (hw : ∀ x ∈ d.ls, Wi S.nv x) (hdl : d.ls.length ≤ 17592186044416)
    (hls : ∀ (i : Nat) (ids : List Nat), S.lists[i]? = some ids → ids.length ≤ 17592186044415) (hex : ∀ x ∈ d.ls, x ≠ l → ¬ ex (idxN x)) :
    Calls Tryz.prog 117 #[Pt b, Pt (h.hb k), I l] w fun e w' =>
      (e = .returned (.bool false) ∧ goal S d l = none ∧ Keep None w w') ∨ ∃ x, e = .returned (.bool true) ∧ goal S d l = some x ∧ x ∈ d.ls ∧ x ≠ l ∧ Nx (tMove (idxN x)) ex w b o h (moveS S k d l x) w' := by
  refine (V117_calls (some ⟨b, 0, none⟩) (some ⟨h.hb k, 0, none⟩) l w (fun v w' => (v = .bool false ∧ goal S d l = none ∧ Keep None w w') ∨ ∃ x, v = .bool true ∧ goal S d l = some x ∧ x ∈ d.ls ∧ x ≠ l ∧ Nx (tMove (idxN x)) ex w b o h (moveS S k d l x) w') ?_).mono fun e w' ⟨v, he, hk⟩ => ?_
  rotate_left
  · rcases hk with ⟨rfl, hk⟩ | ⟨x, rfl, hk⟩
    · exact Or.inl ⟨he, hk⟩
    · exact Or.inr ⟨x, he, hk⟩
  unfold V117
  have hnv := hR.nv
  refine cl_of ok118 (other64 hR hd l) fun e w1 ⟨he, hw1⟩ => ⟨_, he, ?_⟩
  subst hw1
  refine hR.trAt (hR.val ho fun w2 k2 => ⟨_, rfl, ?_⟩)
  by_cases hpos : 0 < vl S (other d l)
  · exact pif_t (decide_eq_true hpos) (Or.inl ⟨rfl, by unfold goal; rw [if_pos hpos], k2⟩)
  refine pif_f (decide_eq_false hpos) ?_
  have hg : goal S d l = d.ls.find? fun x => decide (x ≠ other d l) && (decide (x ≠ l) && decide (0 ≤ vl S x)) := by unfold goal; rw [if_neg hpos]
  obtain ⟨hB, _, hRd, hdo⟩ := (hR.keep0 k2).held k d hd
  have hdn := hRd.len
  refine nn_of (ldC_of (x := (h.hl k).1) (n := (h.hl k).2.1) (c := (h.hl k).2.2) (by rw [add_mk]; exact hB.cell 1) ?_)
  refine lp_of (fun s W => ∃ i : Nat, s.1 = i ∧ i ≤ (h.hl k).2.1 ∧ Keep None w1 W ∧ ∀ x ∈ d.ls.take i, (decide (x ≠ other d l) && (decide (x ≠ l) && decide (0 ≤ vl S x))) = false) (fun s _ => ((h.hl k).2.1 - s.1).toNat) ⟨0, rfl, Nat.zero_le _, k2, fun x hx => by simp at hx⟩ ?_
  rintro ⟨i', ⟨⟩⟩ W ⟨i, hi', hi, kW, hv⟩
  dsimp only at hi' ⊢
  subst hi'
  refine pif_of (fun hlt => ?_) fun hge => ?_
  · have hlt : i < (h.hl k).2.1 := by simpa using hlt
    rw [wrap_nat i (by omega)]
    have hRW := hR.keep0 kW
    obtain ⟨hBW, _, hRdW, _⟩ := hRW.held k d hd
    refine hRdW.ix hlt fun a x hx ha => ldI_of ha ?_
    have hxm := List.mem_of_getElem? hx
    have hxw := hw x hxm
    have step : ∀ {W2 : World}, Keep None w1 W2 → (decide (x ≠ other d l) && (decide (x ≠ l) && decide (0 ≤ vl S x))) = false →
        ((∃ i1 : Nat, ((i + 1 : Nat) : Int) = i1 ∧ i1 ≤ (h.hl k).2.1 ∧ Keep None w1 W2 ∧ ∀ y ∈ d.ls.take i1, (decide (y ≠ other d l) && (decide (y ≠ l) && decide (0 ≤ vl S y))) = false) ∧ (((h.hl k).2.1 : Int) - ((i + 1 : Nat) : Int)).toNat < (((h.hl k).2.1 : Int) - (i : Int)).toNat) := fun {W2} k2 hx0 => by
      refine ⟨⟨i + 1, rfl, hlt, k2, fun y hy => ?_⟩, by omega⟩
      rw [take_snoc hx] at hy
      rcases List.mem_append.1 hy with hy | hy
      · exact hv y hy
      · rw [List.mem_singleton.1 hy]; exact hx0
    by_cases hc : x ≠ other d l ∧ x ≠ l
    · have ec : (cond (x != other d l) (x != l) false) = true := by
        have h1 : (x != other d l) = true := by simpa using hc.1
        have h2 : (x != l) = true := by simpa using hc.2
        rw [h1, h2]; rfl
      rw [ec]
      refine gd_t rfl (nn_of (gd_t rfl (ldP_of (x := some ⟨h.T.t, 0, none⟩) (by rw [add_mk]; exact hRW.self.cell 2) (gd_t rfl ?_))))
      refine hRW.val (by have := hxw.2.1; omega) fun W2 kW2 => ⟨_, rfl, ?_⟩
      have kk2 := kW.then0 kW2
      by_cases hge0 : 0 ≤ vl S x
      · refine pif_t (by rw [decide_eq_true hge0]; rfl) ?_
        have hR2 := hR.keep0 kk2
        have hgoal : goal S d l = some x := by
          rw [hg]
          have e1 : d.ls = d.ls.take i ++ x :: d.ls.drop (i + 1) := by
            obtain ⟨q1, q2⟩ := List.getElem?_eq_some_iff.1 hx
            rw [← q2, ← List.drop_eq_getElem_cons q1, List.take_append_drop]
          rw [e1, List.find?_append]
          have e2 : (d.ls.take i).find? (fun x => decide (x ≠ other d l) && (decide (x ≠ l) && decide (0 ≤ vl S x))) = none := by
            rw [List.find?_eq_none]
            intro y hy; rw [hv y hy]; decide
          have e3 : (decide (x ≠ other d l) && (decide (x ≠ l) && decide (0 ≤ vl S x))) = true := by
            rw [decide_eq_true hc.1, decide_eq_true hc.2, decide_eq_true hge0]; rfl
          rw [e2, Option.none_or, List.find?_cons, e3]
        refine setEyes hR2 hd fun w9 hR9 k9 z9 => ?_
        have hR9d := hR9.keep0 (Keep.refl _ _).drew
        have hb9 := hR9d.self
        refine nn_of (ldC_of (x := h.ll.1) (n := h.ll.2.1) (c := h.ll.2.2) (by rw [add_mk]; exact hb9.cell 4) (nn_of (ldC_of (x := h.ll.1) (n := h.ll.2.1) (c := h.ll.2.2) (by rw [add_mk]; exact hb9.cell 4) ?_)))
        have hil := idxN_lt hxw
        obtain ⟨ids, hids⟩ := getE (show idxN x < S.lists.length by rw [hR.lsl]; exact hil)
        have hP := push3 hR9d hnv hxw (k := k) hids (hex x hxm hc.2) (hls _ _ hids) (K := fun w' => (Value.bool true = .bool false ∧ goal S d l = none ∧ Keep None w1 w') ∨ ∃ x, Value.bool true = .bool true ∧ goal S d l = some x ∧ x ∈ d.ls ∧ x ≠ l ∧ Nx (tMove (idxN x)) ex w1 b o h (moveS S k d l x) w') fun w10 ⟨o', h', hR10, ha, k10, hh⟩ => Or.inr ⟨x, rfl, hgoal, hxm, hc.2, o', h', ?_, ?_, ?_, hh⟩
        · exact hP
        · have e1 : (S.lists[idxN x]?.getD []) = ids := by rw [hids]; rfl
          unfold moveS
          rw [e1]
          exact hR10
        · exact fun j hj => by rw [ha j (by have : w9.drew.heap.size = w9.heap.size := rfl
                                            have := kk2.size; omega)]
        · refine ((kk2.none (S := fun j => tMove (idxN x) (o j))).trans (k9.drew) fun j _ hj => Or.inr (Or.inl hj)).trans k10 fun j _ hj => ?_
          rcases hj with hj | hj
          · exact Or.inl hj
          · exact Or.inr (Or.inr hj)
      · refine pif_f (by rw [decide_eq_false hge0]; rfl) ?_
        exact step kk2 (by rw [decide_eq_false hge0]; simp)
    · have ec : (cond (x != other d l) (x != l) false) = false := by
        by_cases h1 : x = other d l
        · have : (x != other d l) = false := by simpa using h1
          rw [this]; rfl
        · have h2 : x = l := by
            apply Classical.byContradiction
            intro h2; exact hc ⟨h1, h2⟩
          have e1 : (x != other d l) = true := by simpa using h1
          have e2 : (x != l) = false := by simpa using h2
          rw [e1, e2]; rfl
      rw [ec]
      refine gd_f rfl (gd_f rfl (gd_f rfl (pif_f rfl (step kW ?_))))
      by_cases h1 : x = other d l
      · rw [decide_eq_false (fun hh => hh h1)]; rfl
      · have h2 : x = l := by
          apply Classical.byContradiction
          intro h2; exact hc ⟨h1, h2⟩
        rw [decide_eq_false (p := x ≠ l) (fun hh => hh h2)]; simp
  · have hge : i = (h.hl k).2.1 := by simp at hge; omega
    subst hge
    rw [← hdn, List.take_length] at hv
    refine Or.inl ⟨rfl, ?_, kW⟩
    rw [hg, List.find?_eq_none]
    intro y hy; rw [hv y hy]; decide
end Go.Proofs.YtmhjehodfggleaaGreat.Eng

/- An Engine in plain: a clause looked at, a literal's clauses gone through; what holds of the lists. -/

set_option linter.unusedVariables false
set_option linter.unusedSimpArgs false
set_option linter.unusedSectionVars false
set_option maxRecDepth 100000
namespace Go.Proofs.YtmhjehodfggleaaGreat.Eng
open Go Go.Proofs.YtmhjehodfggleaaGreat.Vc Go.Proofs.YtmhjehodfggleaaGreat.T
open Go.Proofs.YtmhjehodfggleaaGreat.Apart (RdL own_rdl wrap_nat getE own_len take_snoc Sl sv New)
open Go.Proofs.YtmhjehodfggleaaGreat.Lits (fl fl_iff Ans ans_of formedP idx idx_range idx_inj indexP)
open Go.Proofs.YtmhjehodfggleaaGreat.Trail (TI Tr St valA levA reaA ownB Moved TLaid above upto freeA implA Open ent)
theorem vl_cases (S:ES) (l:Int):vl S l=1∨vl S l=-1∨vl S l=0:=by
 unfold vl valA
 split
 ·split
  ·split
   ·exact Or.inl rfl
   ·exact Or.inr (Or.inl rfl)
  ·exact Or.inr (Or.inr rfl)
 ·exact Or.inr (Or.inr rfl)
theorem wi_own {nv:Nat} {l:Int} (h:Wi nv l):ownB nv l=true:=by
 obtain ⟨h0,h1,h2⟩:=h
 unfold ownB
 simp only [Bool.and_eq_true,decide_eq_true_eq]
 omega
theorem vl_free {S:ES} {l:Int} (h:Wi S.nv l) (h0:vl S l=0):freeA S.nv S.R l=0:=by
 have ho:=wi_own h
 unfold vl valA at h0
 rw [if_pos ho] at h0
 unfold freeA
 rw [if_pos ho]
 cases he:ent S.R l.natAbs with
 | none=>rfl
 | some e=>
  rw [he] at h0
  dsimp only at h0
  split at h0<;>cases h0
def single (S:ES) (d:Hd):ES×Bool:=
 match d.ls.find? (fun l=>decide (0≤vl S l)) with
 | some l=>if vl S l=1 then (S,true) else (putS S l d.at_,true)
 | none=>({S with bad:=d.at_},false)
def vstep (l:Int) (acc:ES×List Nat×Bool) (k:Nat):ES×List Nat×Bool:=
 match acc.1.H[k]? with
 | none=>acc
 | some d=>
  if d.gone=true then acc
  else if acc.2.2=false then (acc.1,acc.2.1++[k],false)
  else match goal acc.1 d l with
   | some x=>(moveS acc.1 k d l x,acc.2.1,true)
   | none=>
    if vl acc.1 (other d l)<0 then ({acc.1 with bad:=d.at_},acc.2.1++[k],false)
    else if vl acc.1 (other d l)=0 then (putS acc.1 (other d l) d.at_,acc.2.1++[k],true)
    else (acc.1,acc.2.1++[k],true)
def listAt (S:ES) (i:Nat):List Nat:=S.lists[i]?.getD []
def vloop (S:ES) (l:Int):ES×List Nat×Bool:=(listAt S (idxN l)).foldl (vstep l) ({S with lists:=S.lists.set (idxN l) []},[],true)
def visit (S:ES) (l:Int):ES×Bool:=({(vloop S l).1 with lists:=(vloop S l).1.lists.set (idxN l) (vloop S l).2.1},(vloop S l).2.2)
structure WfE (S:ES):Prop where
 nv:S.nv≤1048576
 hl:∀(k:Nat) (d:Hd),S.H[k]?=some d→(∀x∈d.ls,Wi S.nv x)∧d.ls.Nodup∧d.ls.length≤2097153∧0≤d.at_
 cl:S.H.length≤8796093022208
 ll:S.lists.length=2*S.nv
 nd:∀(i:Nat) (ids:List Nat),S.lists[i]?=some ids→ids.Nodup
 w1:∀(i k:Nat) (ids:List Nat),S.lists[i]?=some ids→k∈ids→∃d,S.H[k]?=some d∧d.e0∈d.ls∧d.e1∈d.ls∧d.e0≠d.e1∧(i=idxN d.e0∨i=idxN d.e1)
theorem nodup_lt {l:List Nat} {n:Nat} (hn:l.Nodup) (hs:∀x∈l,x<n):l.length≤n:=by
 have h:=Trail.nodup_bound n (l.map (·+1)) (by
  rw [List.Nodup,List.pairwise_map]
  exact hn.imp fun hne he=>hne (by omega)) (fun x hx=>by
   obtain ⟨y,hy,rfl⟩:=List.mem_map.1 hx
   have:=hs y hy
   omega)
 simpa using h
theorem WfE.len {S:ES} (h:WfE S) {i:Nat} {ids:List Nat} (hi:S.lists[i]?=some ids):ids.length≤S.H.length:=
 nodup_lt (h.nd i ids hi) fun k hk=>by
  obtain ⟨d,hd,_⟩:=h.w1 i k ids hi hk
  exact (List.getElem?_eq_some_iff.1 hd).1
structure VI (l:Int) (S:ES) (todo stay:List Nat):Prop where
 wf:WfE S
 hlw:Wi S.nv l
 lp:S.lists[idxN l]?=some []
 nd:(todo++stay).Nodup
 td:∀k∈todo++stay,∃d,S.H[k]?=some d∧d.e0∈d.ls∧d.e1∈d.ls∧d.e0≠d.e1∧(l=d.e0∨l=d.e1)
theorem other_of {d:Hd} {l:Int} (h:l=d.e0∨l=d.e1) (hne:d.e0≠d.e1):(other d l=d.e0∨other d l=d.e1)∧other d l≠l∧(d.e0=l∨d.e0=other d l)∧(d.e1=l∨d.e1=other d l):=by
 unfold other
 by_cases h0:d.e0=l
 ·rw [if_pos h0]; exact ⟨Or.inr rfl,fun e=>hne (h0.trans e.symm),Or.inl h0,Or.inr rfl⟩
 ·rw [if_neg h0]
  rcases h with h | h
  ·exact absurd h.symm h0
  ·exact ⟨Or.inl rfl,h0,Or.inr rfl,Or.inl h.symm⟩
theorem goal_some {S:ES} {d:Hd} {l x:Int} (h:goal S d l=some x):x∈d.ls∧x≠other d l∧x≠l∧0≤vl S x∧¬0<vl S (other d l):=by
 unfold goal at h
 split at h
 ·cases h
 ·rename_i hn
  have h1:=List.mem_of_find?_eq_some h
  have h2:=List.find?_some h
  simp only [Bool.and_eq_true,decide_eq_true_eq] at h2
  exact ⟨h1,h2.1,h2.2.1,h2.2.2,hn⟩
section
variable {l:Int} {S:ES} {k:Nat} {d:Hd} {todo stay:List Nat}
theorem VI.skip (h:VI l S (k :: todo) stay):VI l S todo stay:=
 ⟨h.wf,h.hlw,h.lp,by have:=h.nd; rw [List.cons_append,List.nodup_cons] at this; exact this.2,fun j hj=>h.td j (by rw [List.cons_append]; exact List.mem_cons_of_mem _ hj)⟩
theorem VI.stays (h:VI l S (k :: todo) stay):VI l S todo (stay++[k]):=by
 have hp:(todo++(stay++[k])).Perm (k :: todo++stay):=by
  rw [←List.append_assoc]
  exact (List.perm_append_singleton k (todo++stay))
 exact ⟨h.wf,h.hlw,h.lp,hp.nodup_iff.2 h.nd,fun j hj=>h.td j (hp.subset hj)⟩
theorem WfE.put (h:WfE S) (l r:Int):WfE (putS S l r):=⟨h.nv,h.hl,h.cl,h.ll,h.nd,h.w1⟩
theorem VI.put (h:VI l S todo stay) (x r:Int):VI l (putS S x r) todo stay:=⟨h.wf.put x r,h.hlw,h.lp,h.nd,h.td⟩
theorem VI.bad (h:VI l S todo stay) (r:Int):VI l {S with bad:=r} todo stay:=⟨⟨h.wf.nv,h.wf.hl,h.wf.cl,h.wf.ll,h.wf.nd,h.wf.w1⟩,h.hlw,h.lp,h.nd,h.td⟩
theorem VI.move (h:VI l S (k :: todo) stay) (hd:S.H[k]?=some d) {x:Int} (hx:goal S d l=some x):VI l (moveS S k d l x) todo stay:=by
 obtain ⟨x1,x2,x3,x4,x5⟩:=goal_some hx
 obtain ⟨d0,hd0,e1,e2,e3,e4⟩:=h.td k (by simp)
 rw [hd] at hd0; injection hd0 with hd0; subst hd0
 obtain ⟨o1,o2,o3,o4⟩:=other_of e4 e3
 have hkl:=(List.getElem?_eq_some_iff.1 hd).1
 have hnv:=h.wf.nv
 obtain ⟨hw,hnd,hlen,hat⟩:=h.wf.hl k d hd
 have hxw:=hw x x1
 have how:Wi S.nv (other d l):=by rcases o1 with o1 | o1<;>rw [o1]; exact hw _ e1; exact hw _ e2
 have hxl:idxN x≠idxN l:=fun e=>x3 (idxN_inj hnv hxw h.hlw e)
 have hxo:idxN x≠idxN (other d l):=fun e=>x2 (idxN_inj hnv hxw how e)
 have hxlt:=idxN_lt hxw
 obtain ⟨ids,hids⟩:=getE (show idxN x<S.lists.length by rw [h.wf.ll]; exact hxlt)
 have eids:S.lists[idxN x]?.getD []=ids:=by rw [hids]; rfl
 have hom:other d l∈d.ls:=by rcases o1 with o1 | o1<;>rw [o1]; exact e1; exact e2
 -- where the clause stood
 have hwhere:∀(i:Nat) (js:List Nat),S.lists[i]?=some js→k∈js→i=idxN (other d l):=fun i js hi hk=>by
  obtain ⟨d1,hd1,_,_,_,hh⟩:=h.wf.w1 i k js hi hk
  rw [hd] at hd1; injection hd1 with hd1; subst hd1
  have hil:i≠idxN l:=fun e=>by
   rw [e,h.lp] at hi; injection hi with hi; rw [←hi] at hk; cases hk
  rcases hh with hh | hh
  ·rcases o3 with o3 | o3
   ·rw [o3] at hh; exact absurd hh hil
   ·rw [hh,o3]
  ·rcases o4 with o4 | o4
   ·rw [o4] at hh; exact absurd hh hil
   ·rw [hh,o4]
 have hkn:k∉ids:=fun hk=>hxo (hwhere _ ids hids hk)
 have hHk:∀(j:Nat),(S.H.set k {d with e0:=other d l,e1:=x})[j]?=if k=j then some {d with e0:=other d l,e1:=x} else S.H[j]?:=fun j=>by
  rw [List.getElem?_set]
  by_cases hkj:k=j
  ·rw [if_pos hkj,if_pos hkl,if_pos hkj]
  ·rw [if_neg hkj,if_neg hkj]
 refine ⟨⟨hnv,fun j d1 hj=>?_,by show (S.H.set k _).length≤_; rw [List.length_set]; exact h.wf.cl,by show (S.lists.set _ _).length=_; rw [List.length_set]; exact h.wf.ll,fun i js hi=>?_,fun i j js hi hj=>?_⟩,h.hlw,?_,h.skip.nd,fun j hj=>?_⟩
 ·have hj':(S.H.set k {d with e0:=other d l,e1:=x})[j]?=some d1:=hj
  rw [hHk] at hj'
  by_cases hkj:k=j
  ·rw [if_pos hkj] at hj'; injection hj' with hj'; rw [←hj']; exact ⟨hw,hnd,hlen,hat⟩
  ·rw [if_neg hkj] at hj'; exact h.wf.hl j d1 hj'
 ·have hi':(S.lists.set (idxN x) (S.lists[idxN x]?.getD []++[k]))[i]?=some js:=hi
  rw [eids] at hi'
  by_cases hix:i=idxN x
  ·rw [hix,List.getElem?_set_self (by rw [h.wf.ll]; exact hxlt)] at hi'
   injection hi' with hi'
   rw [←hi']
   exact List.nodup_append.2 ⟨h.wf.nd _ ids hids,by simp,fun a ha c hc=>by rw [List.mem_singleton.1 hc]; exact fun e=>hkn (e ▸ ha)⟩
  ·rw [List.getElem?_set_ne (fun e=>hix e.symm)] at hi'
   exact h.wf.nd i js hi'
 ·have hi':(S.lists.set (idxN x) (S.lists[idxN x]?.getD []++[k]))[i]?=some js:=hi
  rw [eids] at hi'
  have old:∀{js':List Nat},S.lists[i]?=some js'→j∈js'→∃d1,(S.H.set k {d with e0:=other d l,e1:=x})[j]?=some d1∧d1.e0∈d1.ls∧d1.e1∈d1.ls∧d1.e0≠d1.e1∧(i=idxN d1.e0∨i=idxN d1.e1):=fun {js'} hjs hj=>by
   rw [hHk]
   by_cases hkj:k=j
   ·subst hkj
    rw [if_pos rfl]
    exact ⟨_,rfl,hom,x1,Ne.symm x2,Or.inl (hwhere i js' hjs hj)⟩
   ·rw [if_neg hkj]; exact h.wf.w1 i j js' hjs hj
  by_cases hix:i=idxN x
  ·have hi2:=hi'
   rw [hix,List.getElem?_set_self (by rw [h.wf.ll]; exact hxlt)] at hi2
   injection hi2 with hi2
   rw [←hi2] at hj
   rcases List.mem_append.1 hj with hj | hj
   ·exact old (by rw [hix]; exact hids) hj
   ·rw [List.mem_singleton.1 hj]
    show ∃d1,(S.H.set k {d with e0:=other d l,e1:=x})[k]?=some d1∧_
    rw [hHk,if_pos rfl]
    exact ⟨_,rfl,hom,x1,Ne.symm x2,Or.inr hix⟩
  ·rw [List.getElem?_set_ne (fun e=>hix e.symm)] at hi'
   exact old hi' hj
 ·show (S.lists.set (idxN x) _)[idxN l]?=some []
  rw [List.getElem?_set_ne hxl]; exact h.lp
 ·have hjk:k≠j:=fun e=>by
   have:=h.nd
   rw [List.cons_append,List.nodup_cons] at this
   exact this.1 (e ▸ hj)
  obtain ⟨d1,hd1,r⟩:=h.td j (by rw [List.cons_append]; exact List.mem_cons_of_mem _ hj)
  refine ⟨d1,?_,r⟩
  show (S.H.set k _)[j]?=some d1
  rw [List.getElem?_set_ne hjk]; exact hd1
theorem VI.step {ok:Bool} (h:VI l S (k :: todo) stay):VI l (vstep l (S,stay,ok) k).1 todo (vstep l (S,stay,ok) k).2.1:=by
 obtain ⟨d,hd,_⟩:=h.td k (by simp)
 unfold vstep
 rw [hd]
 dsimp only
 by_cases hg:d.gone=true
 ·rw [if_pos hg]; exact h.skip
 rw [if_neg hg]
 by_cases hok:ok=false
 ·rw [if_pos hok]; exact h.stays
 rw [if_neg hok]
 cases hx:goal S d l with
 | some x=>exact h.move hd hx
 | none=>
  dsimp only
  split
  ·exact h.stays.bad _
  ·split
   ·exact h.stays.put _ _
   ·exact h.stays
theorem VI.done (h:VI l S [] stay):WfE {S with lists:=S.lists.set (idxN l) stay}:=by
 have hlt:=idxN_lt h.hlw
 refine ⟨h.wf.nv,h.wf.hl,h.wf.cl,by show (S.lists.set _ _).length=_; rw [List.length_set]; exact h.wf.ll,fun i js hi=>?_,fun i j js hi hj=>?_⟩
 ·have hi':(S.lists.set (idxN l) stay)[i]?=some js:=hi
  by_cases hil:i=idxN l
  ·rw [hil,List.getElem?_set_self (by rw [h.wf.ll]; exact hlt)] at hi'
   injection hi' with hi'
   rw [←hi']; have:=h.nd; rwa [List.nil_append] at this
  ·rw [List.getElem?_set_ne (fun e=>hil e.symm)] at hi'
   exact h.wf.nd i js hi'
 ·have hi':(S.lists.set (idxN l) stay)[i]?=some js:=hi
  by_cases hil:i=idxN l
  ·rw [hil,List.getElem?_set_self (by rw [h.wf.ll]; exact hlt)] at hi'
   injection hi' with hi'
   rw [←hi'] at hj
   obtain ⟨d,hd,a,b,c,e⟩:=h.td j (by simpa using hj)
   exact ⟨d,hd,a,b,c,by rcases e with e | e; exact Or.inl (by rw [hil,e]); exact Or.inr (by rw [hil,e])⟩
  ·rw [List.getElem?_set_ne (fun e=>hil e.symm)] at hi'
   exact h.wf.w1 i j js hi' hj
theorem VI.start (h:WfE S) (hl:Wi S.nv l):VI l {S with lists:=S.lists.set (idxN l) []} (listAt S (idxN l)) []:=by
 have hlt:=idxN_lt hl
 obtain ⟨ids,hids⟩:=getE (show idxN l<S.lists.length by rw [h.ll]; exact hlt)
 have eids:listAt S (idxN l)=ids:=by unfold listAt; rw [hids]; rfl
 rw [eids]
 refine ⟨⟨h.nv,h.hl,h.cl,by show (S.lists.set _ _).length=_; rw [List.length_set]; exact h.ll,fun i js hi=>?_,fun i j js hi hj=>?_⟩,hl,List.getElem?_set_self (by rw [h.ll]; exact hlt),by rw [List.append_nil]; exact h.nd _ ids hids,fun k hk=>?_⟩
 ·have hi':(S.lists.set (idxN l) [])[i]?=some js:=hi
  by_cases hil:i=idxN l
  ·rw [hil,List.getElem?_set_self (by rw [h.ll]; exact hlt)] at hi'
   injection hi' with hi'; rw [←hi']; exact List.nodup_nil
  ·rw [List.getElem?_set_ne (fun e=>hil e.symm)] at hi'; exact h.nd i js hi'
 ·have hi':(S.lists.set (idxN l) [])[i]?=some js:=hi
  by_cases hil:i=idxN l
  ·rw [hil,List.getElem?_set_self (by rw [h.ll]; exact hlt)] at hi'
   injection hi' with hi'; rw [←hi'] at hj; cases hj
  ·rw [List.getElem?_set_ne (fun e=>hil e.symm)] at hi'; exact h.w1 i j js hi' hj
 ·rw [List.append_nil] at hk
  obtain ⟨d,hd,a,b,c,e⟩:=h.w1 _ k ids hids hk
  have hw:=(h.hl k d hd).1
  exact ⟨d,hd,a,b,c,by rcases e with e | e; exact Or.inl (idxN_inj h.nv hl (hw _ a) e); exact Or.inr (idxN_inj h.nv hl (hw _ b) e)⟩
end
end Go.Proofs.YtmhjehodfggleaaGreat.Eng

/- An Engine in memory: its own numbers; a clause of one literal or none; a literal's clauses gone through. -/

set_option linter.unusedVariables false
set_option linter.unusedSimpArgs false
set_option linter.unusedSectionVars false
set_option maxRecDepth 100000
namespace Go.Proofs.YtmhjehodfggleaaGreat.Eng
open Go Go.Proofs.YtmhjehodfggleaaGreat.Vc Go.Proofs.YtmhjehodfggleaaGreat.T
open Go.Proofs.YtmhjehodfggleaaGreat.Apart (RdL own_rdl wrap_nat getE own_len take_snoc Sl sv New)
open Go.Proofs.YtmhjehodfggleaaGreat.Lits (fl fl_iff Ans ans_of formedP idx idx_range idx_inj indexP)
open Go.Proofs.YtmhjehodfggleaaGreat.Arn (Ar AR)
open Go.Proofs.YtmhjehodfggleaaGreat.Trail (TI Tr St valA levA reaA ownB Moved TLaid above upto freeA implA Open)
theorem take_snocN {α:Type} {l:List α} {i:Nat} {x:α} (h:l[i]?=some x):l.take (i+1)=l.take i++[x]:=by rw [List.take_add_one,h]; rfl
def noEx:Nat→Prop:=fun _=>False
section
variable {ex:Nat→Prop} {w w' w1:World} {b:Nat} {o o1:Nat→Int} {h h1:Hs} {S S1 S2:ES} {T T':Int→Prop}
theorem Rp.setSelf (hR:Rp ex w b o h S) {hd:Nat} {r c d:Bool} {x:Int} (hk:Keep (One b) w w') (hB:Blk w' b [I S.nv,Pt h.st,Pt h.T.t,sv h.oo,sv h.ll,sv h.ss,sv h.le,.iface 98 (Pt h.bk),I hd,.bool r,.bool c,.bool d,I x] 106) (hs:w'.heap.size=w.heap.size) :
  Rp ex w' b o h {S with head:=hd,rest:=r,clash:=c,dead:=d,bad:=x}:=by
 have kk:Keep (fun j=>(fun t:Int=>t=-1) (o j)) w w':=hk.mono fun j _ hj=>by rw [show j=b from hj]; exact hR.selfO
 exact ⟨hB,hR.selfO,Rp.arK (h:=h) (S:=S) (T:=fun t=>t=-1) hR kk (by decide),Rp.trK (h:=h) (S:=S) (T:=fun t=>t=-1) hR kk (by decide),hR.trO,own_K (T:=fun t=>t=-1) hR.oo hR.ooO kk (by decide),hR.ooO,own_K (T:=fun t=>t=-1) hR.out hR.outO kk (by decide),hR.outO,hR.hhl,hR.lsl,
  Rp.innK (h:=h) (S:=S) (T:=fun t=>t=-1) hR kk (fun i hi=>⟨hi,by omega⟩),Rp.innOK (h:=h) (S:=S) (T:=fun t=>t=-1) hR kk,own_K (T:=fun t=>t=-1) hR.sh hR.shO kk (by decide),hR.shO,own_K (T:=fun t=>t=-1) hR.le hR.leO kk (by decide),hR.leO,blk_K (T:=fun t=>t=-1) hR.bk hR.bkO kk (by decide),hR.bkO,own_K (T:=fun t=>t=-1) hR.lg hR.lgO kk (by decide),hR.lgO,hR.gll,
  Rp.glK (h:=h) (S:=S) (T:=fun t=>t=-1) hR kk (by decide),Rp.heldK (h:=h) (S:=S) (T:=fun t=>t=-1) hR kk (by decide) (by decide),hR.inj,fun j hj=>hR.nrm j (by rw [←hs]; exact hj)⟩
theorem Rp.selfN (hR:Rp ex w b o h S) {hd:Nat} {r c d:Bool} {x:Int} (hT:T (-1)) (hk:Keep (One b) w w') (hB:Blk w' b [I S.nv,Pt h.st,Pt h.T.t,sv h.oo,sv h.ll,sv h.ss,sv h.le,.iface 98 (Pt h.bk),I hd,.bool r,.bool c,.bool d,I x] 106) (hs:w'.heap.size=w.heap.size) :
  Nx T ex w b o h {S with head:=hd,rest:=r,clash:=c,dead:=d,bad:=x} w':=
 ⟨o,h,hR.setSelf hk hB hs,Ag.refl _ _,hk.mono fun j _ hj=>by rw [show j=b from hj,hR.selfO]; exact hT,rfl⟩
theorem Nx.refl (hR:Rp ex w b o h S):Nx T ex w b o h S w:=⟨o,h,hR,Ag.refl _ _,(Keep.refl None w).none,rfl⟩
theorem Nx.keep0 (hN:Nx T ex w b o h S w1) (hk:Keep None w1 w'):Nx T ex w b o h S w':=by
 obtain ⟨o',h',a,b',c,d⟩:=hN
 exact ⟨o',h',a.keep0 hk,b',c.then0 hk,d⟩
theorem Nx.before (hk:Keep None w w1) (hN:Nx T ex w1 b o h S w'):Nx T ex w b o h S w':=by
 obtain ⟨o',h',a,b',c,d⟩:=hN
 exact ⟨o',h',a,fun j hj=>b' j (Nat.lt_of_lt_of_le hj hk.size),(hk.none (S:=fun j=>T (o j))).trans c fun _ _ h=>h,d⟩
theorem Nx.mono (hN:Nx T ex w b o h S w') (hT:∀t,T t→T' t):Nx T' ex w b o h S w':=by
 obtain ⟨o',h',a,b',c,d⟩:=hN
 exact ⟨o',h',a,b',c.mono fun j _ hj=>hT _ hj,d⟩
theorem Nx.bind (hN:Nx T ex w b o h S w1) (hK:∀o1 h1,Rp ex w1 b o1 h1 S→h1.hb=h.hb→Nx T ex w1 b o1 h1 S2 w'):Nx T ex w b o h S2 w':=by
 obtain ⟨o1,h1,r1,a1,k1,e1⟩:=hN
 obtain ⟨o2,h2,r2,a2,k2,e2⟩:=hK o1 h1 r1 e1
 exact ⟨o2,h2,r2,a1.trans a2 k1.size,k1.trans k2 fun j hj hh=>by rw [←a1 j hj]; exact hh,e2.trans e1⟩
end
theorem single34 {ex:Nat→Prop} {w:World} {b:Nat} {o:Nat→Int} {h:Hs} {S:ES} (hR:Rp ex w b o h S) {k:Nat} {d:Hd} (hd:S.H[k]?=some d) (hat:0≤d.at_) (hw:∀x∈d.ls,Wi S.nv x) (hdl:d.ls.length≤17592186044416) :
  Calls Tryz.prog 75 #[Pt b,Pt (h.hb k)] w fun e w'=>e=.returned (.bool (single S d).2)∧Nx tPutE ex w b o h (single S d).1 w':=by
 refine (V75_calls (some ⟨b,0,none⟩) (some ⟨h.hb k,0,none⟩) w (fun v w'=>v=.bool (single S d).2∧Nx tPutE ex w b o h (single S d).1 w') ?_).mono fun e w' ⟨v,he,hv,hk⟩=>⟨by rw [he,hv],hk⟩
 unfold V75
 have hnv:=hR.nv
 obtain ⟨hB,_,hRd,hdo⟩:=hR.held k d hd
 have hdn:=hRd.len
 refine nn_of (ldC_of (x:=(h.hl k).1) (n:=(h.hl k).2.1) (c:=(h.hl k).2.2) (by rw [add_mk]; exact hB.cell 1) ?_)
 refine lp_of (fun s W=>∃i:Nat,s.1=i∧i≤(h.hl k).2.1∧Keep None w W∧∀x∈d.ls.take i,decide (0≤vl S x)=false) (fun s _=>((h.hl k).2.1 - s.1).toNat) ⟨0,rfl,Nat.zero_le _,Keep.refl _ _,fun x hx=>by simp at hx⟩ ?_
 rintro ⟨i',⟨⟩⟩ W ⟨i,hi',hi,kW,hv⟩
 dsimp only at hi' ⊢
 subst hi'
 have hRW:=hR.keep0 kW
 obtain ⟨hBW,_,hRdW,_⟩:=hRW.held k d hd
 refine pif_of (fun hlt=>?_) fun hge=>?_
 ·have hlt:i<(h.hl k).2.1:=by simpa using hlt
  rw [wrap_nat i (by omega)]
  refine hRdW.ix hlt fun a x hx ha=>ldI_of ha ?_
  have hxm:=List.mem_of_getElem? hx
  have hxw:=hw x hxm
  refine hRW.trAt (hRW.val (by have:=hxw.2.1; omega) fun W2 kW2=>⟨_,rfl,?_⟩)
  have kk2:=kW.then0 kW2
  have e1:d.ls=d.ls.take i++x :: d.ls.drop (i+1):=by
   obtain ⟨q1,q2⟩:=List.getElem?_eq_some_iff.1 hx
   rw [←q2,←List.drop_eq_getElem_cons q1,List.take_append_drop]
  have e2:(d.ls.take i).find? (fun x=>decide (0≤vl S x))=none:=by
   rw [List.find?_eq_none]
   intro y hy; rw [hv y hy]; decide
  have hfind:0≤vl S x→d.ls.find? (fun x=>decide (0≤vl S x))=some x:=fun h0=>by
   rw [e1,List.find?_append,e2,Option.none_or,List.find?_cons,decide_eq_true h0]
  rcases vl_cases S x with h1 | h1 | h1
  ·rw [h1]
   have hs:single S d=(S,true):=by unfold single; rw [hfind (by omega)]; dsimp only; rw [if_pos h1]
   rw [hs]
   exact pif_t rfl ⟨rfl,Nx.keep0 (Nx.refl hR) kk2⟩
  ·rw [h1]
   refine pif_f rfl (pif_f rfl ⟨⟨i+1,rfl,hlt,kk2,fun y hy=>?_⟩,by omega⟩)
   rw [take_snoc hx] at hy
   rcases List.mem_append.1 hy with hy | hy
   ·exact hv y hy
   ·rw [List.mem_singleton.1 hy,h1]; rfl
  ·rw [h1]
   have hs:single S d=(putS S x d.at_,true):=by unfold single; rw [hfind (by omega)]; dsimp only; rw [if_neg (by omega)]
   rw [hs]
   refine pif_f rfl (pif_t rfl (cl_of ok60 (put48 (hR.keep0 kk2) hd hat (by have:=hxw.2.1; omega) (vl_free hxw h1)) fun e w3 ⟨he,hN⟩=>⟨he,rfl,hN.before kk2⟩))
 ·have hge:i=(h.hl k).2.1:=by simp at hge; omega
  subst hge
  rw [←hdn,List.take_length] at hv
  have hs:single S d=({S with bad:=d.at_},false):=by
   unfold single
   have:d.ls.find? (fun x=>decide (0≤vl S x))=none:=by
    rw [List.find?_eq_none]; intro y hy; rw [hv y hy]; decide
   rw [this]
  rw [hs]
  refine nn_of (ldI_of (x:=d.at_) (by rw [add_mk]; exact hBW.cell 0) (nn_of ?_))
  rw [add_mk,add_mk]
  refine st_of hRW.self (by simp) rfl fun w4 hB4 k4 z4=>⟨rfl,Nx.before kW (hRW.selfN (T:=tPutE) (Or.inl rfl) k4 hB4 z4)⟩
theorem visit35 {w : World} {b : Nat} {o : Nat → Int} {h : Hs} {S : ES} (hR : Rp noEx w b o h S) (hW : WfE S) {l : Int} (hl : Wi S.nv l) :
    Calls Tryz.prog 76 #[Pt b, I l] w fun e w' => e = .returned (.bool (visit S l).2) ∧ Nx tMine noEx w b o h (visit S l).1 w' := by
  refine (V76_calls (some ⟨b, 0, none⟩) l w (fun v w' => v = .bool (visit S l).2 ∧ Nx tMine noEx w b o h (visit S l).1 w') ?_).mono fun e w' ⟨v, he, hv, hk⟩ => ⟨by rw [he, hv], hk⟩
  unfold V76
  have hnv := hR.nv
  have hfl := wi_fl hnv hl
  have eix := idxN_eq hnv hl
  have hi := idxN_lt hl
  obtain ⟨x, hx⟩ := getE (show idxN l < h.hh.length by rw [hR.hhl]; exact hi)
  obtain ⟨ids, hids⟩ := getE (show idxN l < S.lists.length by rw [hR.lsl]; exact hi)
  have eids : listAt S (idxN l) = ids := by unfold listAt; rw [hids]; rfl
  have self4 : ∀ {V : World} {o1 : Nat → Int} {h1 : Hs} {S1 : ES} {ex1 : Nat → Prop}, Rp ex1 V b o1 h1 S1 → ∀ {K : Option Addr → Nat → Nat → Prop}, K h1.ll.1 h1.ll.2.1 h1.ll.2.2 → ldC V ((⟨b, 0, none⟩ : Addr).add 4) K := fun {V o1 h1 S1 ex1} hRV {K} hK => by
    rw [add_mk]
    exact ldC_of (x := h1.ll.1) (n := h1.ll.2.1) (c := h1.ll.2.2) (hRV.self.cell 4) hK
  refine cl_of ok94 (indexP hfl) fun e w1 ⟨he, k1⟩ => ⟨_, he, ?_⟩
  have hR1 := hR.keep0 k1
  have z1 := k1.size
  rw [eix]
  refine nn_of (self4 hR1 (hR1.outAt hx fun a ha => ldC_of (x := x.1) (n := x.2.1) (c := x.2.2) ha (nn_of (self4 hR1 ?_))))
  have hOx := hR1.inn _ x ids hx hids (fun h => h)
  have hxo := hR.innO _ x hx
  have hxn := pts_len hOx
  have hxlen := hW.len hids
  have hcl := hW.cl
  have hR1' : Rp (fun j => noEx j ∨ j = idxN l) w1 b o h S := hR1.exMono fun j hj => hj.elim
  refine setOut (g := (none, 0, 0)) (ids' := []) hR1' hi (Own.nil _ _ _) (fun j ⟨a, hh, _⟩ => by cases hh) fun w2 hR2 k2 => ?_
  have z2 := k2.size
  have hOx2 : Own w2 110 1 x.1 x.2.1 x.2.2 (ids.map fun k => Pt (h.hb k)) := hOx.keep k2 fun j hj hh => by have := (hxo j hj).1; have hh' : o j = -5 := hh; omega
  have k02 : Keep (fun i => tMine (o i)) w w2 := (Keep.none k1).trans k2 fun j _ hh => by have hh' : o j = -5 := hh; show o j ≠ -9; omega
  have hst := VI.start hW hl
  rw [eids] at hst
  have evl : vloop S l = ids.foldl (vstep l) ({ S with lists := S.lists.set (idxN l) [] }, [], true) := by unfold vloop; rw [eids]
  refine lp_of (fun s W => ∃ (i : Nat) (S1 : ES) (stay : List Nat) (o1 : Nat → Int) (h1 : Hs), s.2.2.1 = (i : Int) ∧ i ≤ ids.length ∧ (ids.take i).foldl (vstep l) ({ S with lists := S.lists.set (idxN l) [] }, [], true) = (S1, stay, s.1) ∧ VI l S1 (ids.drop i) stay ∧ S1.nv = S.nv ∧
      Rp noEx W b o1 h1 S1 ∧ h1.hb = h.hb ∧ Own W 110 1 s.2.1.1 s.2.1.2.1 s.2.1.2.2 (stay.map fun k => Pt (h.hb k)) ∧ (∀ j, ob s.2.1.1 j → w.heap.size ≤ j ∧ o1 j = -9) ∧
      Own W 110 1 x.1 x.2.1 x.2.2 (ids.map fun k => Pt (h.hb k)) ∧ Ag w o o1 ∧ Keep (fun i => tMine (o i)) w W) (fun s _ => (ids.length - s.2.2.1).toNat)
    ⟨0, _, [], o, _, rfl, Nat.zero_le _, rfl, hst, rfl, hR2, rfl, Own.nil _ _ _, (fun j ⟨a, hh, _⟩ => by cases hh), hOx2, Ag.refl _ _, k02⟩ ?_
  rintro ⟨ok, ⟨sp, sn, sc⟩, i', ⟨⟩⟩ W ⟨i, S1, stay, o1, h1, rfl, hii, hfo, hVI, hnv1, hRi, ehb, hSt, hsto, hXi, hai, kWi⟩
  dsimp only at hfo hSt hsto ⊢
  have zW := kWi.size
  have hsn := pts_len hSt
  have hcl1 := hVI.wf.cl
  have hstl : stay.length ≤ 8796093022208 := by
    refine Nat.le_trans (nodup_lt (List.nodup_append.1 hVI.nd).2.1 fun k hk => ?_) hcl1
    obtain ⟨d, hd, _⟩ := hVI.td k (List.mem_append_right _ hk)
    exact (List.getElem?_eq_some_iff.1 hd).1
  have hxo1 : ∀ j, ob x.1 j → o1 j = idxN l := fun j hj => by rw [hai j (hxo j hj).2]; exact (hxo j hj).1
  refine pif_of (fun hlt => ?_) fun hge => ?_
  · have hlt : i < ids.length := by have : (i : Int) < (x.2.1 : Int) := by simpa using hlt
                                    omega
    rw [wrap_nat i (by omega)]
    obtain ⟨k, hk⟩ := getE hlt
    have edr : ids.drop i = k :: ids.drop (i + 1) := by
      obtain ⟨hx1, hx2⟩ := List.getElem?_eq_some_iff.1 hk
      rw [List.drop_eq_getElem_cons hx1, hx2]
    rw [edr] at hVI
    obtain ⟨d, hd, hde0, hde1, hdne, hdl⟩ := hVI.td k (by simp)
    obtain ⟨hdw, hdnd, hdlen, hdat⟩ := hVI.wf.hl k d hd
    have hstep := hVI.step (ok := ok)
    have efo : (ids.take (i + 1)).foldl (vstep l) ({ S with lists := S.lists.set (idxN l) [] }, [], true) = vstep l (S1, stay, ok) k := by
      rw [take_snocN hk, List.foldl_append, hfo]; rfl
    refine ⟨fun s W' => ∃ (S2 : ES) (st2 : List Nat) (o2 : Nat → Int) (h2 : Hs), vstep l (S1, stay, ok) k = (S2, st2, s.1) ∧ S2.nv = S.nv ∧ Rp noEx W' b o2 h2 S2 ∧ h2.hb = h.hb ∧ Own W' 110 1 s.2.1.1 s.2.1.2.1 s.2.1.2.2 (st2.map fun k => Pt (h.hb k)) ∧ (∀ j, ob s.2.1.1 j → w.heap.size ≤ j ∧ o2 j = -9) ∧
      Own W' 110 1 x.1 x.2.1 x.2.2 (ids.map fun k => Pt (h.hb k)) ∧ Ag w o o2 ∧ Keep (fun i => tMine (o i)) w W', ?_, ?_⟩
    rotate_left
    · rintro ⟨ok', ⟨p', n', c'⟩, ⟨⟩⟩ W' ⟨S2, st2, o2, h2, q0, q2, q3, q4, q5, q6, q7, q8, q9⟩
      rw [q0] at hstep efo
      exact ⟨⟨i + 1, S2, st2, o2, h2, rfl, hlt, efo, hstep, q2, q3, q4, q5, q6, q7, q8, q9⟩, by omega⟩
    -- what a step of the Engine's leaves
    have after : ∀ {W1 W2 : World} {T : Int → Prop} {S2 : ES} {o2 : Nat → Int} {h2 : Hs} {sp : Option Addr} {sn sc : Nat} {st : List Nat}, Keep (fun i => tMine (o i)) w W1 → Own W1 110 1 sp sn sc (st.map fun k => Pt (h.hb k)) → (∀ j, ob sp j → w.heap.size ≤ j ∧ o2 j = -9) → Own W1 110 1 x.1 x.2.1 x.2.2 (ids.map fun k => Pt (h.hb k)) → Ag w o o2 → h2.hb = h.hb →
        Nx T noEx W1 b o2 h2 S2 W2 → ¬ T (-9) → ¬ T (idxN l) → ∃ (o3 : Nat → Int) (h3 : Hs), Rp noEx W2 b o3 h3 S2 ∧ h3.hb = h.hb ∧ Own W2 110 1 sp sn sc (st.map fun k => Pt (h.hb k)) ∧ (∀ j, ob sp j → w.heap.size ≤ j ∧ o3 j = -9) ∧ Own W2 110 1 x.1 x.2.1 x.2.2 (ids.map fun k => Pt (h.hb k)) ∧ Ag w o o3 ∧ Keep (fun i => tMine (o i)) w W2 := by
      intro W1 W2 T S2 o2 h2 sp sn sc st kW hS hso hX ha eh ⟨o3, h3, hR3, ha3, k3, e3⟩ ht9 htl
      refine ⟨o3, h3, hR3, e3.trans eh, own_K (t := -9) hS (fun j hj => (hso j hj).2) k3 ht9, fun j hj => ⟨(hso j hj).1, by rw [ha3 j (hS.lt j hj)]; exact (hso j hj).2⟩, own_K (t := idxN l) hX (fun j hj => by rw [ha j (hxo j hj).2]; exact (hxo j hj).1) k3 htl, ha.trans ha3 kW.size, kW.trans k3 fun j hj hh => ?_⟩
      have hh' : T (o2 j) := hh
      rw [ha j hj] at hh'
      exact fun e => ht9 (e ▸ hh')
    have hXi' := hXi
    refine hXi.ix (by omega) (by omega) fun bq hbq => ?_
    rw [hbq] at hXi'
    refine ldP_of (x := some ⟨h.hb k, 0, none⟩) (by rw [hXi'.cell _ (by omega), Int.toNat_natCast, Nat.mul_one, List.getElem?_map, hk]; rfl) ?_
    obtain ⟨hBd, _, _, _⟩ := hRi.held k d hd
    rw [ehb] at hBd
    refine nn_of (ldB_of (x := d.gone) (by rw [add_mk]; exact hBd.cell 4) ?_)
    -- k stays
    have stays : ∀ (W5 : World), Keep None W W5 → ∀ {K : Option Addr → Nat → Nat → World → Prop},
        (∀ (g : Sl) (w' : World), Rp noEx w' b o1 h1 S1 → Own w' 110 1 g.1 g.2.1 g.2.2 ((stay ++ [k]).map fun k => Pt (h.hb k)) → (∀ j, ob g.1 j → w.heap.size ≤ j ∧ o1 j = -9) → Own w' 110 1 x.1 x.2.1 x.2.2 (ids.map fun k => Pt (h.hb k)) → Keep (fun i => tMine (o i)) w w' → K g.1 g.2.1 g.2.2 w') →
        alc W5 [Pt (h.hb k)] 110 fun b43 w8 => ∃ (x44 : Option Addr) (x44n x44c : Nat), ∃ w9 : World, (Builtin.append_ #[101, 101] 101 #[.slice sp sn sc, .slice (some (⟨b43, 0, none⟩ : Addr)) 1 1]).run Tryz.prog w8 = .ok (.slice x44 x44n x44c) w9 ∧ K x44 x44n x44c w9 := by
      intro W5 kW5 K hK
      refine alc_at fun bb w8 hbb hB k8 => ?_
      have k58 := kW5.then0 k8
      have hSt8 := hSt.keep0 k58
      have hR8 := hRi.keep0 k58
      have hX8 := hXi.keep0 k58
      have z8 := k58.size
      refine app_of2 (e := 110) (sz := 1) (z := .pointer none) (B := 8) Tryz.underlying101 (by kernel_rfl) rfl (by omega) hSt8 hB.news1 (fun u hu => ?_) (by simp only [maxLen]; omega) (by omega) fun p' c' w' hO' hd' => ?_
      · simp only [List.mem_singleton] at hu; subst hu; rfl
      have kk : Keep (ob sp) w8 w' := by
        rcases hd' with ⟨_, _, _, kk⟩ | ⟨_, kk⟩
        · exact kk
        · exact kk.none
      refine hK (p', sn + 1, c') w' (hR8.keepX kk fun j hj hh => (hsto j hh).2) (by rw [List.map_append]; exact hO') (fun j hj => ?_) (hX8.keep kk fun j hj hh => by have := (hsto j hh).1; have := (hxo j hj).2; omega) ((kWi.then0 k58).trans kk fun j hj hh => by have := (hsto j hh).1; omega)
      rcases hd' with ⟨e, _, _, _⟩ | ⟨e, _⟩
      · exact hsto j (by rw [e] at hj; exact hj)
      · exact ⟨by have := e j hj; omega, hRi.nrm j (by have := e j hj; omega)⟩
    have hgoal0 : ∀ {a : ES × List Nat × Bool}, d.gone = true → vstep l (S1, stay, ok) k = (S1, stay, ok) := fun {a} hg => by
      unfold vstep; dsimp only; rw [hd]; dsimp only; rw [if_pos hg]
    by_cases hg : d.gone = true
    · rw [hg]
      refine gd_f rfl (pif_t rfl ⟨S1, stay, o1, h1, hgoal0 (a := (S1, stay, ok)) hg, hnv1, hRi, ehb, hSt, hsto, hXi, hai, kWi⟩)
    have hgf : d.gone = false := by simpa using hg
    rw [hgf]
    cases ok with
    | false =>
      have ev : vstep l (S1, stay, false) k = (S1, stay ++ [k], false) := by
        unfold vstep; dsimp only; rw [hd]; dsimp only; rw [if_neg hg, if_pos rfl]
      refine gd_f rfl (pif_f rfl ?_)
      refine stays W (Keep.refl _ _) fun g w' q3 q5 q6 q7 q9 => ?_
      have h64 := other64 q3 hd l
      rw [ehb] at h64
      refine cl_of ok118 h64 fun e w6 ⟨he, hw6⟩ => ⟨_, he, ?_⟩
      subst hw6
      exact pif_t rfl ⟨S1, stay ++ [k], o1, h1, ev, hnv1, q3, ehb, q5, q6, q7, hai, q9⟩
    | true =>
      have how : Wi S1.nv (other d l) := by
        obtain ⟨o1', _⟩ := other_of hdl hdne
        rcases o1' with o1' | o1' <;> rw [o1']
        · exact hdw _ hde0
        · exact hdw _ hde1
      refine gd_t rfl (cl_of ok117 (by
        have := moved63 hRi hd (l := l) (by have := hl.2.1; omega) (by have := how.2.1; omega) hdw (by omega) (fun i ids hh => by have := hVI.wf.len hh; omega) (fun _ _ _ hh => hh)
        rw [ehb] at this; exact this) fun e w6 hMv => ?_)
      rcases hMv with ⟨he, hgo, k6⟩ | ⟨y, he, hgo, hyL, hyl, hNx⟩
      · refine ⟨_, he, pif_f rfl ?_⟩
        refine stays w6 k6 fun g w9 q3 q5 q6 q7 q9 => ?_
        have h64 := other64 q3 hd l
        rw [ehb] at h64
        refine cl_of ok118 h64 fun e w10 ⟨he, hw10⟩ => ⟨_, he, ?_⟩
        subst hw10
        refine pif_f rfl (q3.trAt (q3.val (by have := how.2.1; omega) fun w11 k11 => ⟨_, rfl, ?_⟩))
        have r3 := q3.keep0 k11
        have r5 := q5.keep0 k11
        have r7 := q7.keep0 k11
        have r9 := q9.then0 k11
        have ev : vstep l (S1, stay, true) k = if vl S1 (other d l) < 0 then ({ S1 with bad := d.at_ }, stay ++ [k], false) else if vl S1 (other d l) = 0 then (putS S1 (other d l) d.at_, stay ++ [k], true) else (S1, stay ++ [k], true) := by
          unfold vstep; dsimp only; rw [hd]; dsimp only; rw [if_neg hg, if_neg (by decide), hgo]
        rcases vl_cases S1 (other d l) with h2 | h2 | h2
        · rw [h2] at ev ⊢
          refine pif_f rfl (r3.trAt (r3.val (by have := how.2.1; omega) fun w12 k12 => ⟨_, rfl, ?_⟩))
          rw [h2]
          exact pif_f rfl ⟨S1, stay ++ [k], o1, h1, ev, hnv1, r3.keep0 k12, ehb, r5.keep0 k12, q6, r7.keep0 k12, hai, r9.then0 k12⟩
        · rw [h2] at ev ⊢
          refine pif_t rfl ?_
          obtain ⟨hB9, _, _, _⟩ := r3.held k d hd
          rw [ehb] at hB9
          refine nn_of (ldI_of (x := d.at_) (by rw [add_mk]; exact hB9.cell 0) (nn_of ?_))
          rw [add_mk, add_mk]
          refine st_of r3.self (by simp) rfl fun w12 hB12 k12 z12 => ?_
          have hN := r3.selfN (T := fun t => t = -1) (S := S1) (hd := S1.head) (r := S1.rest) (c := S1.clash) (d := S1.dead) (x := d.at_) rfl k12 hB12 z12
          obtain ⟨o3, h3, g1, g2, g3, g4, g5, g6, g7⟩ := after r9 r5 q6 r7 hai ehb hN (by decide) (by omega)
          exact ⟨_, stay ++ [k], o3, h3, ev, hnv1, g1, g2, g3, g4, g5, g6, g7⟩
        · rw [h2] at ev ⊢
          refine pif_f rfl (r3.trAt (r3.val (by have := how.2.1; omega) fun w12 k12 => ⟨_, rfl, ?_⟩))
          rw [h2]
          refine pif_t rfl ?_
          have h48 := put48 (r3.keep0 k12) hd hdat (l := other d l) (by have := how.2.1; omega) (vl_free how h2)
          rw [ehb] at h48
          refine cl_of ok60 h48 fun e w13 ⟨he, hN⟩ => ⟨he, ?_⟩
          obtain ⟨o3, h3, g1, g2, g3, g4, g5, g6, g7⟩ := after (r9.then0 k12) (r5.keep0 k12) q6 (r7.keep0 k12) hai ehb hN (by intro hh; rcases hh with hh | hh | hh <;> omega) (by intro hh; rcases hh with hh | hh | hh <;> omega)
          exact ⟨_, stay ++ [k], o3, h3, ev, hnv1, g1, g2, g3, g4, g5, g6, g7⟩
      · have ev : vstep l (S1, stay, true) k = (moveS S1 k d l y, stay, true) := by
          unfold vstep; dsimp only; rw [hd]; dsimp only; rw [if_neg hg, if_neg (by decide), hgo]
        have hyi : idxN y ≠ idxN l := fun e => hyl (idxN_inj hVI.wf.nv (hdw y hyL) hVI.hlw e)
        refine ⟨_, he, pif_t rfl ?_⟩
        obtain ⟨o3, h3, g1, g2, g3, g4, g5, g6, g7⟩ := after kWi hSt hsto hXi hai ehb hNx (by intro hh; rcases hh with hh | hh | hh <;> omega) (by intro hh; rcases hh with hh | hh | hh <;> omega)
        exact ⟨_, stay, o3, h3, ev, hnv1, g1, g2, g3, g4, g5, g6, g7⟩
  · have hge : i = ids.length := by have : ¬ (i : Int) < (x.2.1 : Int) := by simpa using hge
                                    omega
    subst hge
    rw [List.take_length, ← evl] at hfo
    have ev : visit S l = ({ S1 with lists := S1.lists.set (idxN l) stay }, ok) := by unfold visit; rw [hfo]
    rw [ev]
    have kd : Keep None W W.drew := (Keep.refl _ _).drew
    have hRd := hRi.keep0 kd
    have hi1 : idxN l < 2 * S1.nv := by rw [hnv1]; exact hi
    obtain ⟨y, hy⟩ := getE (show idxN l < h1.hh.length by rw [hRi.hhl]; exact hi1)
    have hOy := hRd.inn _ y [] hy hVI.lp (fun h => h)
    have hyn := pts_len hOy
    refine nn_of (self4 hRd (nn_of (self4 hRd (hRd.outAt hy fun a ha => ldC_of (x := y.1) (n := y.2.1) (c := y.2.2) ha ?_))))
    have hyn0 : y.2.1 = 0 := by simpa using hyn.symm
    refine app_of2 (e := 110) (sz := 1) (z := .pointer none) (B := 8) Tryz.underlying101 (by kernel_rfl) rfl (by omega) (hSt.keep0 kd) hOy.news (fun u hu => by simp at hu) (by simp only [maxLen]; omega) (by omega) fun p' c' w' hO' hd' => ?_
    rw [List.map_nil, List.append_nil] at hO'
    have kk : Keep (ob sp) W.drew w' := by
      rcases hd' with ⟨_, _, _, kk⟩ | ⟨_, kk⟩
      · exact kk
      · exact kk.none
    have hR3 := hRd.keepX kk fun j hj hh => (hsto j hh).2
    have hpo : ∀ j, ob p' j → w.heap.size ≤ j ∧ o1 j = -9 := fun j hj => by
      rcases hd' with ⟨e, _, _, _⟩ | ⟨e, _⟩
      · exact hsto j (by rw [e] at hj; exact hj)
      · have h1 := e j hj
        have h2 := kd.size
        exact ⟨by omega, hRi.nrm j (by omega)⟩
    refine ⟨self4 hR3 rfl, ?_⟩
    let o3 : Nat → Int := fun j => open Classical in if ob p' j then idxN l else o1 j
    have hR4 : Rp (fun j => noEx j ∨ j = idxN l) w' b o3 h1 S1 := (hR3.tag (o' := o3) (fun j hj => if_neg fun hh => hj (hpo j hh).2) fun j hj => by
      show (open Classical in if ob p' j then ((idxN l : Nat) : Int) else o1 j) = -9
      rw [if_neg fun hh => by have := hO'.lt j hh; omega]
      exact hR3.nrm j hj).exMono fun j hj => hj.elim
    have ehb' : (stay.map fun k => Pt (h1.hb k)) = stay.map fun k => Pt (h.hb k) := by rw [ehb]
    rw [show ((idxN l : Nat) : Int) = ((idxN l : Nat) : Int) from rfl]
    refine setOut (g := (p', sn + y.2.1, c')) (ids' := stay) hR4 hi1 (by rw [ehb']; exact hO') (fun j hj => if_pos hj) fun w5 hR5 k5 => ⟨rfl, o3, _, hR5, ?_, ?_, ehb⟩
    · exact fun j hj => (if_neg fun hh => by have := (hpo j hh).1; omega).trans (hai j hj)
    · refine ((kWi.then0 kd).trans kk fun j hj hh => by have := (hsto j hh).1; omega).trans k5 fun j hj hh => ?_
      have hh' : o3 j = -5 := hh
      have e1 : o3 j = o1 j := if_neg fun hh => by have := (hpo j hh).1; omega
      rw [e1, hai j hj] at hh'
      show o j ≠ -9
      omega
end Go.Proofs.YtmhjehodfggleaaGreat.Eng

/- An Engine: what stays through a look at clauses; the spread in plain and in memory; a clause watched. -/

set_option linter.unusedVariables false
set_option linter.unusedSimpArgs false
set_option linter.unusedSectionVars false
set_option maxRecDepth 100000
namespace Go.Proofs.YtmhjehodfggleaaGreat.Eng
open Go Go.Proofs.YtmhjehodfggleaaGreat.Vc Go.Proofs.YtmhjehodfggleaaGreat.T
open Go.Proofs.YtmhjehodfggleaaGreat.Apart (RdL own_rdl wrap_nat getE own_len take_snoc Sl sv New)
open Go.Proofs.YtmhjehodfggleaaGreat.Lits (fl fl_iff Ans ans_of formedP idx idx_range idx_inj indexP)
open Go.Proofs.YtmhjehodfggleaaGreat.Arn (Ar AR)
open Go.Proofs.YtmhjehodfggleaaGreat.Trail (TI Tr St valA levA reaA ownB Moved TLaid above upto freeA implA Open)
structure Fr (S S':ES):Prop where
 nv:S'.nv=S.nv
 ar:S'.ar=S.ar
 L:S'.L=S.L
 short:S'.short=S.short
 learnts:S'.learnts=S.learnts
 log:S'.log=S.log
 head:S'.head=S.head
 rest:S'.rest=S.rest
 clash:S'.clash=S.clash
 dead:S'.dead=S.dead
 hlen:S'.H.length=S.H.length
 hls:∀(k:Nat) (d':Hd),S'.H[k]?=some d'→∃d,S.H[k]?=some d∧d'.ls=d.ls∧d'.at_=d.at_∧d'.gone=d.gone
 R:∃X,S'.R=S.R++X
theorem Fr.refl (S:ES):Fr S S:=⟨rfl,rfl,rfl,rfl,rfl,rfl,rfl,rfl,rfl,rfl,rfl,fun k d h=>⟨d,h,rfl,rfl,rfl⟩,[],by simp⟩
theorem Fr.trans {S S1 S2:ES} (h:Fr S S1) (g:Fr S1 S2):Fr S S2:=by
 refine ⟨g.nv.trans h.nv,g.ar.trans h.ar,g.L.trans h.L,g.short.trans h.short,g.learnts.trans h.learnts,g.log.trans h.log,g.head.trans h.head,g.rest.trans h.rest,g.clash.trans h.clash,g.dead.trans h.dead,g.hlen.trans h.hlen,fun k d' hd'=>?_,?_⟩
 ·obtain ⟨d1,h1,a,b,c⟩:=g.hls k d' hd'
  obtain ⟨d,h2,a',b',c'⟩:=h.hls k d1 h1
  exact ⟨d,h2,a.trans a',b.trans b',c.trans c'⟩
 ·obtain ⟨X,hX⟩:=h.R
  obtain ⟨Y,hY⟩:=g.R
  exact ⟨X++Y,by rw [hY,hX,List.append_assoc]⟩
theorem fr_put (S:ES) (l r:Int):Fr S (putS S l r):={Fr.refl S with R:=⟨[_],rfl⟩}
theorem fr_bad (S:ES) (x:Int):Fr S {S with bad:=x}:={Fr.refl S with}
theorem fr_lists (S:ES) (x:List (List Nat)):Fr S {S with lists:=x}:={Fr.refl S with}
theorem fr_move {S:ES} {k:Nat} {d:Hd} (hd:S.H[k]?=some d) (l x:Int):Fr S (moveS S k d l x):=by
 refine {Fr.refl S with hlen:=List.length_set,hls:=fun j d' hj=>?_,R:=⟨[],by simp [moveS]⟩}
 have hj':(S.H.set k {d with e0:=other d l,e1:=x})[j]?=some d':=hj
 rw [List.getElem?_set] at hj'
 by_cases hkj:k=j
 ·subst hkj
  rw [if_pos rfl,if_pos (List.getElem?_eq_some_iff.1 hd).1] at hj'
  injection hj' with hj'
  exact ⟨d,hd,by rw [←hj'],by rw [←hj'],by rw [←hj']⟩
 ·rw [if_neg hkj] at hj'; exact ⟨d',hj',rfl,rfl,rfl⟩
theorem fr_single (S:ES) (d:Hd):Fr S (single S d).1:=by
 unfold single
 split
 ·split
  ·exact Fr.refl _
  ·exact fr_put _ _ _
 ·exact fr_bad _ _
theorem fr_vstep (l:Int) (acc:ES×List Nat×Bool) (k:Nat):Fr acc.1 (vstep l acc k).1:=by
 unfold vstep
 cases hd:acc.1.H[k]? with
 | none=>exact Fr.refl _
 | some d=>
  dsimp only
  split
  ·exact Fr.refl _
  ·split
   ·exact Fr.refl _
   ·split
    ·exact fr_move hd _ _
    ·split
     ·exact fr_bad _ _
     ·split
      ·exact fr_put _ _ _
      ·exact Fr.refl _
theorem fr_fold (l:Int):∀(ids:List Nat) (acc:ES×List Nat×Bool),Fr acc.1 (ids.foldl (vstep l) acc).1
 | [],acc=>Fr.refl _
 | k :: ids,acc=>(fr_vstep l acc k).trans (fr_fold l ids _)
theorem fr_visit (S:ES) (l:Int):Fr S (visit S l).1:=
 ((fr_lists S (S.lists.set (idxN l) [])).trans (fr_fold l (listAt S (idxN l)) ({S with lists:=S.lists.set (idxN l) []},[],true))).trans (fr_lists _ _)
theorem vi_fold {l:Int} : ∀(todo:List Nat) (S:ES) (stay:List Nat) (ok:Bool),VI l S todo stay→VI l (todo.foldl (vstep l) (S,stay,ok)).1 [] (todo.foldl (vstep l) (S,stay,ok)).2.1
 | [],S,stay,ok,h=>h
 | k :: todo,S,stay,ok,h=>vi_fold todo _ _ (vstep l (S,stay,ok) k).2.2 h.step
theorem WfE.visit {S:ES} (h:WfE S) {l:Int} (hl:Wi S.nv l):WfE (visit S l).1:=(vi_fold _ _ _ _ (VI.start h hl)).done
theorem WfE.bad {S:ES} (h:WfE S) (x:Int):WfE {S with bad:=x}:=⟨h.nv,h.hl,h.cl,h.ll,h.nd,h.w1⟩
theorem WfE.self {S:ES} (h:WfE S) (hd:Nat) (r c d:Bool) (x:Int):WfE {S with head:=hd,rest:=r,clash:=c,dead:=d,bad:=x}:=⟨h.nv,h.hl,h.cl,h.ll,h.nd,h.w1⟩
theorem WfE.single {S:ES} (h:WfE S) (d:Hd):WfE (single S d).1:=by
 unfold Eng.single
 split
 ·split
  ·exact h
  ·exact h.put _ _
 ·exact h.bad _
structure WfS (S:ES):Prop extends WfE S where
 sh:∀k∈S.short,k<S.H.length
 le:∀k∈S.learnts,k<S.H.length
 shl:S.short.length≤8796093022208
 lel:S.learnts.length≤8796093022208
theorem WfS.fr {S S':ES} (h:WfS S) (hf:Fr S S') (hw:WfE S'):WfS S':=
 ⟨hw,by rw [hf.short,hf.hlen]; exact h.sh,by rw [hf.learnts,hf.hlen]; exact h.le,by rw [hf.short]; exact h.shl,by rw [hf.learnts]; exact h.lel⟩
def sstep (acc:ES×Bool) (k:Nat):ES×Bool:=
 if acc.2=false then acc else match acc.1.H[k]? with
 | none=>acc
 | some d=>single acc.1 d
def shorts (S:ES):ES×Bool:=if S.L.length=0 then S.short.foldl sstep (S,true) else (S,true)
def spreadN:Nat→ES→ES×Bool
 | 0,S=>(S,true)
 | n+1,S=>match S.R[S.head]? with
  | none=>(S,true)
  | some e=>let r:=visit {S with head:=S.head+1} (-e.lit); if r.2=true then spreadN n r.1 else r
def spread (S:ES):ES×Bool:=
 if (S.dead || S.clash)=true then (S,false)
 else
  let a:=shorts S
  let c:=if a.2=true then spreadN S.nv a.1 else a
  ({c.1 with rest:=c.2,clash:=!c.2},c.2)
theorem fr_sstep (acc:ES×Bool) (k:Nat):Fr acc.1 (sstep acc k).1:=by
 unfold sstep
 split
 ·exact Fr.refl _
 ·split
  ·exact Fr.refl _
  ·exact fr_single _ _
theorem fr_sfold:∀(ids:List Nat) (acc:ES×Bool),Fr acc.1 (ids.foldl sstep acc).1
 | [],acc=>Fr.refl _
 | k :: ids,acc=>(fr_sstep acc k).trans (fr_sfold ids _)
theorem WfE.sstep {acc:ES×Bool} (h:WfE acc.1) (k:Nat):WfE (sstep acc k).1:=by
 unfold Eng.sstep
 split
 ·exact h
 ·split
  ·exact h
  ·exact h.single _
theorem wi_neg {nv:Nat} {l:Int} (h:Wi nv l):Wi nv (-l):=⟨by have:=h.1; omega,by have:=h.2.2; omega,by have:=h.2.1; omega⟩
theorem own_wi {nv:Nat} {l:Int} (h:ownB nv l=true):Wi nv l:=by
 unfold ownB at h
 simp only [Bool.and_eq_true,decide_eq_true_eq] at h
 exact ⟨by omega,by omega,by omega⟩
theorem level33 {ex:Nat→Prop} {w:World} {b:Nat} {o:Nat→Int} {h:Hs} {S:ES} (hR:Rp ex w b o h S):Calls Tryz.prog 64 #[Pt b] w fun e w'=>e=.returned (I S.L.length)∧w'=w:=by
 refine (V64_calls (some ⟨b,0,none⟩) w (fun v w'=>v=I S.L.length∧w'=w) ?_).mono fun e w' ⟨v,he,hv,hk⟩=>⟨by rw [he,hv],hk⟩
 unfold V64
 exact hR.trAt (cl_of ok111 hR.tr.level fun e w1 ⟨he,hw⟩=>⟨_,he,rfl,hw⟩)
theorem tput_mine {t:Int} (h:tPutE t):tMine t:=by rcases h with h | h | h<;>(intro e; omega)
theorem spread7 {w : World} {b : Nat} {o : Nat → Int} {h : Hs} {S : ES} (hR : Rp noEx w b o h S) (hW : WfS S) :
    Calls Tryz.prog 26 #[Pt b] w fun e w' => e = .returned (.bool (spread S).2) ∧ Nx tMine noEx w b o h (spread S).1 w' := by
  refine (V26_calls (some ⟨b, 0, none⟩) w (fun v w' => v = .bool (spread S).2 ∧ Nx tMine noEx w b o h (spread S).1 w') ?_).mono fun e w' ⟨v, he, hv, hk⟩ => ⟨by rw [he, hv], hk⟩
  unfold V26
  refine nn_of (ldB_of (x := S.dead) (by rw [add_mk]; exact hR.self.cell 11) ?_)
  by_cases hdc : (S.dead || S.clash) = true
  · have es : spread S = (S, false) := by unfold spread; rw [if_pos hdc]
    rw [es]
    cases hd : S.dead with
    | true => exact gd_f rfl (gd_f rfl (pif_t rfl ⟨rfl, Nx.refl hR⟩))
    | false =>
      have hc : S.clash = true := by rw [hd] at hdc; simpa using hdc
      exact gd_t rfl (nn_of (gd_t rfl (ldB_of (x := S.clash) (by rw [add_mk]; exact hR.self.cell 10) (pif_t (by rw [hc]; rfl) ⟨rfl, Nx.refl hR⟩))))
  have hd : S.dead = false := by cases hd : S.dead with
    | true => rw [hd] at hdc; exact absurd rfl hdc
    | false => rfl
  have hc : S.clash = false := by cases hc : S.clash with
    | true => rw [hd, hc] at hdc; exact absurd rfl hdc
    | false => rfl
  rw [hd]
  refine gd_t rfl (nn_of (gd_t rfl (ldB_of (x := S.clash) (by rw [add_mk]; exact hR.self.cell 10) (pif_f (by rw [hc]; rfl) ?_))))
  have es : spread S = ({ (if (shorts S).2 = true then spreadN S.nv (shorts S).1 else shorts S).1 with rest := (if (shorts S).2 = true then spreadN S.nv (shorts S).1 else shorts S).2, clash := !(if (shorts S).2 = true then spreadN S.nv (shorts S).1 else shorts S).2 }, (if (shorts S).2 = true then spreadN S.nv (shorts S).1 else shorts S).2) := by
    unfold spread; rw [if_neg hdc]
  refine ⟨fun s W => s.1 = (shorts S).2 ∧ WfS (shorts S).1 ∧ Fr S (shorts S).1 ∧ Nx tMine noEx w b o h (shorts S).1 W, ?_, ?_⟩
  · refine cl_of ok64 (level33 hR) fun e w4 ⟨he, hw⟩ => ⟨_, he, ?_⟩
    subst hw
    refine pif_of (fun hq => ?_) fun hq => ?_
    · have hL : S.L.length = 0 := by have : ((S.L.length : Nat) : Int) = 0 := by simpa using hq
                                     omega
      have esh : shorts S = S.short.foldl sstep (S, true) := by unfold shorts; rw [if_pos hL]
      rw [esh]
      have hsn := pts_len hR.sh
      refine nn_of (ldC_of (x := h.ss.1) (n := h.ss.2.1) (c := h.ss.2.2) (by rw [add_mk]; exact hR.self.cell 5) ?_)
      refine lp_of (fun s W => ∃ (i : Nat) (S1 : ES) (o1 : Nat → Int) (h1 : Hs), s.2.1 = (i : Int) ∧ i ≤ S.short.length ∧ (S.short.take i).foldl sstep (S, true) = (S1, s.1) ∧ WfE S1 ∧ Fr S S1 ∧ Rp noEx W b o1 h1 S1 ∧ h1.hb = h.hb ∧ Own W 110 1 h.ss.1 h.ss.2.1 h.ss.2.2 (S.short.map fun k => Pt (h.hb k)) ∧ Ag w4 o o1 ∧ Keep (fun i => tPutE (o i)) w4 W) (fun s _ => (S.short.length - s.2.1).toNat)
        ⟨0, S, o, h, rfl, Nat.zero_le _, rfl, hW.toWfE, Fr.refl _, hR, rfl, hR.sh, Ag.refl _ _, (Keep.refl None _).none⟩ ?_
      rintro ⟨ok, i', ⟨⟩⟩ W ⟨i, S1, o1, h1, rfl, hii, hfo, hw1, hfr, hRi, ehb, hSh, hai, kWi⟩
      dsimp only at hfo ⊢
      refine pif_of (fun hlt => ?_) fun hge => ?_
      · have hlt : i < S.short.length := by have : (i : Int) < (h.ss.2.1 : Int) := by simpa using hlt
                                            omega
        have hshl := hW.shl
        rw [wrap_nat i (by omega)]
        obtain ⟨k, hk⟩ := getE hlt
        obtain ⟨d, hd1⟩ := getE (show k < S1.H.length by rw [hfr.hlen]; exact hW.sh k (List.mem_of_getElem? hk))
        have hSh' := hSh
        refine hSh.ix (by omega) (by omega) fun bq hbq => ?_
        rw [hbq] at hSh'
        refine ldP_of (x := some ⟨h.hb k, 0, none⟩) (by rw [hSh'.cell _ (by omega), Int.toNat_natCast, Nat.mul_one, List.getElem?_map, hk]; rfl) ?_
        have efo : (S.short.take (i + 1)).foldl sstep (S, true) = sstep (S1, ok) k := by
          rw [take_snocN hk, List.foldl_append, hfo]; rfl
        cases ok with
        | false =>
          have ev : sstep (S1, false) k = (S1, false) := by unfold sstep; rw [if_pos rfl]
          rw [ev] at efo
          exact gd_f rfl ⟨⟨i + 1, S1, o1, h1, rfl, hlt, efo, hw1, hfr, hRi, ehb, hSh, hai, kWi⟩, by omega⟩
        | true =>
          have ev : sstep (S1, true) k = single S1 d := by unfold sstep; dsimp only; rw [if_neg (by decide), hd1]
          rw [ev] at efo
          obtain ⟨hdw, _, hdl, hdat⟩ := hw1.hl k d hd1
          have h34 := single34 hRi hd1 hdat hdw (by omega)
          rw [ehb] at h34
          refine gd_t rfl (cl_of ok75 h34 fun e w6 ⟨he, o2, h2, r2, a2, k2, e2⟩ => ⟨_, he, ?_⟩)
          refine ⟨⟨i + 1, (single S1 d).1, o2, h2, rfl, hlt, by rw [efo]; rfl, hw1.single d, hfr.trans (fr_single _ _), r2, e2.trans ehb, own_K (t := -6) hSh (fun j hj => by rw [hai j (hR.sh.lt j hj)]; exact hR.shO j hj) k2 (by intro hh; rcases hh with hh | hh | hh <;> omega), hai.trans a2 kWi.size, keep_ag kWi hai k2⟩, by omega⟩
      · have hge : i = S.short.length := by have : ¬ (i : Int) < (h.ss.2.1 : Int) := by simpa using hge
                                            omega
        subst hge
        rw [List.take_length] at hfo
        rw [hfo]
        exact ⟨rfl, hW.fr hfr hw1, hfr, o1, h1, hRi, hai, kWi.mono fun j _ hh => tput_mine hh, ehb⟩
    · have hL : ¬ S.L.length = 0 := by have : ¬ ((S.L.length : Nat) : Int) = 0 := by simpa using hq
                                       omega
      have esh : shorts S = (S, true) := by unfold shorts; rw [if_neg hL]
      rw [esh]
      exact ⟨rfl, hW, Fr.refl _, Nx.refl hR⟩
  rintro ⟨ok0, ⟨⟩⟩ w3 ⟨rfl, hW3, hF3, hN3⟩
  dsimp only
  have kd : ∀ W : World, Keep None W W.drew := fun W => (Keep.refl _ _).drew
  refine lp_of (fun s W => ∃ (n : Nat) (S1 : ES) (o1 : Nat → Int) (h1 : Hs), (if s.1 = true then spreadN n S1 else (S1, s.1)) = (if (shorts S).2 = true then spreadN S.nv (shorts S).1 else shorts S) ∧ S1.nv ≤ n + S1.head ∧ WfE S1 ∧ Rp noEx W b o1 h1 S1 ∧ h1.hb = h.hb ∧ Ag w o o1 ∧ Keep (fun i => tMine (o i)) w W ∧ S1.nv = S.nv) (fun s W => if s.1 = true then (match W.cell? ⟨b, 8, none⟩ with | some (.int _ i) => (S.nv + 1 - i).toNat | _ => 0) else 0) ?_ ?_
  · obtain ⟨o1, h1, r1, a1, k1, e1⟩ := hN3
    refine ⟨S.nv, (shorts S).1, o1, h1, ?_, by rw [hF3.nv]; omega, hW3.toWfE, r1, e1, a1, k1, hF3.nv⟩
    dsimp only
  rintro ⟨ok, ⟨⟩⟩ W ⟨n, S1, o1, h1, hsp, hn, hw1, hRi, ehb, hai, kWi, hnv1⟩
  dsimp only at hsp ⊢
  have hRd := hRi.keep0 (kd W)
  have fin : ∀ (c : ES × Bool), (if (shorts S).2 = true then spreadN S.nv (shorts S).1 else shorts S) = c → c.1 = S1 → c.2 = ok → nn (some ⟨b, 0, none⟩) fun p65 => Vc.st W.drew ((p65.add 9).add 0) (.bool ok) fun w11 => nn (some ⟨b, 0, none⟩) fun p66 => Vc.st w11 ((p66.add 10).add 0) (.bool (!ok)) fun w12 => Value.bool ok = .bool (spread S).2 ∧ Nx tMine noEx w b o h (spread S).1 w12 := by
    intro c h1' h2' h3'
    rw [es, h1', h2', h3']
    refine nn_of ?_
    rw [add_mk, add_mk]
    refine st_of hRd.self (by simp) rfl fun w11 hB11 k11 z11 => nn_of ?_
    rw [add_mk, add_mk]
    refine st_of hB11 (by simp) rfl fun w12 hB12 k12 z12 => ⟨rfl, ?_⟩
    have kk : Keep (One b) W.drew w12 := k11.trans k12 fun _ _ h => h
    have hR12 := hRd.setSelf (hd := S1.head) (r := ok) (c := !ok) (d := S1.dead) (x := S1.bad) kk hB12 (by rw [z12, z11])
    exact ⟨o1, h1, hR12, hai, (kWi.then0 (kd W)).trans kk fun j hj hh => by
      have hjb : j = b := hh
      have := hai j hj
      rw [hjb, hRi.selfO] at this
      show o j ≠ -9
      rw [hjb, ← this]; decide, ehb⟩
  cases ok with
  | false =>
    rw [if_neg (by decide)] at hsp
    exact gd_f rfl (gd_f rfl (gd_f rfl (gd_f rfl (pif_f rfl (fin _ hsp.symm rfl rfl)))))
  | true =>
    rw [if_pos rfl] at hsp
    have hoo := own_len hRi.oo
    rw [List.length_map] at hoo
    have hRlen := hRi.tr.small.2.1
    have c8 : ∀ {V : World} {o1 : Nat → Int} {h1 : Hs} {S1 : ES}, Rp noEx V b o1 h1 S1 → ∀ {K : Int → Prop}, K S1.head → ldI .i64 V ((⟨b, 0, none⟩ : Addr).add 8) K := fun {V o1 h1 S1} hRV {K} hK => by
      rw [add_mk]; exact ldI_of (hRV.self.cell 8) hK
    have c3 : ∀ {V : World} {o1 : Nat → Int} {h1 : Hs} {S1 : ES}, Rp noEx V b o1 h1 S1 → ∀ {K : Option Addr → Nat → Nat → Prop}, K h1.oo.1 h1.oo.2.1 h1.oo.2.2 → ldC V ((⟨b, 0, none⟩ : Addr).add 3) K := fun {V o1 h1 S1} hRV {K} hK => by
      rw [add_mk]; exact ldC_of (x := h1.oo.1) (n := h1.oo.2.1) (c := h1.oo.2.2) (hRV.self.cell 3) hK
    refine gd_t rfl (nn_of (gd_t rfl (c8 hRd (gd_t rfl (nn_of (gd_t rfl (c3 hRd ?_)))))))
    dsimp only
    by_cases hlt : S1.head < S1.R.length
    · have hnpos : ∃ n', n = n' + 1 := ⟨n - 1, by omega⟩
      obtain ⟨n', rfl⟩ := hnpos
      obtain ⟨e, he⟩ := getE hlt
      have hRdd := hRd.keep0 (kd W.drew)
      refine pif_t (by have : (S1.head : Int) < (h1.oo.2.1 : Int) := by omega
                       rw [decide_eq_true this]; rfl) (nn_of (c3 hRdd (nn_of (c8 hRdd ?_))))
      have hO := hRdd.oo
      refine hRdd.oo.ix (by omega) (by omega) fun bq hbq => ?_
      rw [hbq] at hO
      refine ldI_of (x := e.lit) (by rw [hO.cell _ (by omega), Int.toNat_natCast, Nat.mul_one, List.getElem?_map, List.getElem?_map, he]; rfl) (nn_of (c8 hRdd (nn_of ?_)))
      have hbd := hRi.nv
      rw [add_mk, add_mk, wrap_nat S1.head (by omega)]
      refine st_of hRdd.self (by simp) rfl fun w9 hB9 k9 z9 => ?_
      have hR9 := hRdd.setSelf (hd := S1.head + 1) (r := S1.rest) (c := S1.clash) (d := S1.dead) (x := S1.bad) k9 hB9 z9
      have hwi : Wi S1.nv e.lit := own_wi (hRi.tr.st.own e (List.mem_of_getElem? he))
      have eneg : IntKind.wrap .i64 (0 - e.lit) = -e.lit := by
        have h1 := hwi.2.1; have h2 := hwi.2.2
        rw [show (0 - e.lit : Int) = -e.lit by omega]
        rw [IntKind.wrap_i64]; omega
      rw [eneg]
      have hw9 := hw1.self (S1.head + 1) S1.rest S1.clash S1.dead S1.bad
      refine cl_of ok76 (visit35 hR9 hw9 (wi_neg hwi)) fun ee w10 ⟨hee, o2, h2, r2, a2, k2, e2⟩ => ⟨_, hee, ?_⟩
      have hfv := fr_visit { S1 with head := S1.head + 1 } (-e.lit)
      have esn : spreadN (n' + 1) S1 = if (visit { S1 with head := S1.head + 1 } (-e.lit)).2 = true then spreadN n' (visit { S1 with head := S1.head + 1 } (-e.lit)).1 else visit { S1 with head := S1.head + 1 } (-e.lit) := by
        show (match S1.R[S1.head]? with
          | none => (S1, true)
          | some e => let r := visit { S1 with head := S1.head + 1 } (-e.lit); if r.2 = true then spreadN n' r.1 else r) = _
        rw [he]
      have z9' : w9.heap.size = W.heap.size := z9
      have hhead : (visit { S1 with head := S1.head + 1 } (-e.lit)).1.head = S1.head + 1 := hfv.head
      have hnv2 : (visit { S1 with head := S1.head + 1 } (-e.lit)).1.nv = S1.nv := hfv.nv
      refine ⟨⟨n', _, o2, h2, ?_, by rw [hhead, hnv2]; omega, hw9.visit (wi_neg hwi), r2, e2.trans ehb, hai.trans a2 (by have := kWi.size; omega), ?_, hnv2.trans hnv1⟩, ?_⟩
      · rw [← hsp, esn]
      · refine (((kWi.then0 (kd W)).then0 (kd W.drew)).trans k9 fun j hj hh => ?_).trans k2 fun j hj hh => ?_
        · have hjb : j = b := hh
          have := hai j hj
          rw [hjb, hRi.selfO] at this
          show o j ≠ -9
          rw [hjb, ← this]; decide
        · rw [← hai j hj]; exact hh
      · have c1 : W.cell? ⟨b, 8, none⟩ = some (I S1.head) := hRi.self.cell 8
        have c2 : w10.cell? ⟨b, 8, none⟩ = some (I (S1.head + 1 : Nat)) := by
          have := r2.self.cell 8
          rw [hhead] at this
          exact this
        rw [c1, c2]
        by_cases h2 : (visit { S1 with head := S1.head + 1 } (-e.lit)).2 = true
        · rw [if_pos h2, if_pos rfl]; dsimp only; omega
        · rw [if_neg h2, if_pos rfl]; dsimp only; omega
    · have hnn : (if (shorts S).2 = true then spreadN S.nv (shorts S).1 else shorts S) = (S1, true) := by
        rw [← hsp]
        cases n with
        | zero => rfl
        | succ n' =>
          show (match S1.R[S1.head]? with
            | none => (S1, true)
            | some e => let r := visit { S1 with head := S1.head + 1 } (-e.lit); if r.2 = true then spreadN n' r.1 else r) = _
          rw [List.getElem?_eq_none (by omega)]
      exact pif_f (by have : ¬ (S1.head : Int) < (h1.oo.2.1 : Int) := by omega
                      rw [decide_eq_false this]; rfl) (fin _ hnn rfl rfl)
end Go.Proofs.YtmhjehodfggleaaGreat.Eng

/- An Engine in memory: the trail and the order turned; a decision; a way back; a clause watched. -/

set_option linter.unusedVariables false
set_option linter.unusedSimpArgs false
set_option linter.unusedSectionVars false
set_option maxRecDepth 100000
namespace Go.Proofs.YtmhjehodfggleaaGreat.Eng
open Go Go.Proofs.YtmhjehodfggleaaGreat.Vc Go.Proofs.YtmhjehodfggleaaGreat.T
open Go.Proofs.YtmhjehodfggleaaGreat.Apart (RdL own_rdl wrap_nat getE own_len take_snoc Sl sv New)
open Go.Proofs.YtmhjehodfggleaaGreat.Lits (fl fl_iff Ans ans_of formedP idx idx_range idx_inj indexP)
open Go.Proofs.YtmhjehodfggleaaGreat.Arn (Ar AR)
open Go.Proofs.YtmhjehodfggleaaGreat.Trail (TI Tr St valA levA reaA ownB Moved TLaid above upto freeA implA Open ent)
theorem Rp.laid {ex:Nat→Prop} {w w4:World} {b:Nat} {o:Nat→Int} {h:Hs} {S:ES} (hR:Rp ex w b o h S) {T':TI} {p':Option Addr} {n' c':Nat} {R':List E} {L':List Int} {hd:Nat} {r c d:Bool} {x:Int}
  (kall:Keep (fun j=>tPutE (o j)) w w4) (hself4:Blk w4 b [I S.nv,Pt h.st,Pt T'.t,sv (p',n',c'),sv h.ll,sv h.ss,sv h.le,.iface 98 (Pt h.bk),I hd,.bool r,.bool c,.bool d,I x] 106)
  (hT4:Tr S.nv w4 T' R' L') (hF:∀j,T'.F j→(j<w.heap.size∧o j=-3)∨w.heap.size≤j) (hO4:Own w4 3 1 p' n' c' ((R'.map fun e:E=>e.lit).map I)) (pcase:∀j,ob p' j→(j<w.heap.size∧o j=-4)∨w.heap.size≤j) (hdis:∀j,T'.F j→¬ob p' j) :
  Nx tPutE ex w b o h {S with R:=R',L:=L',head:=hd,rest:=r,clash:=c,dead:=d,bad:=x} w4:=by
 have lo:∀{j:Nat},o j≠-9→j<w.heap.size:=fun {j} hj=>by
  apply Classical.byContradiction
  intro hn
  exact hj (hR.nrm j (by omega))
 have nT:∀{t:Int},t≠-1→t≠-3→t≠-4→¬tPutE t:=fun a b c hh=>by rcases hh with h | h | h; exact a h; exact b h; exact c h
 have z:=kall.size
 let o':Nat→Int:=fun j=>open Classical in if j<w.heap.size then o j else if T'.F j then -3 else if ob p' j then -4 else -9
 have e0:∀{j:Nat} {t:Int},t≠-9→o j=t→o' j=t:=fun {j} {t} hne hj=>by
  show (open Classical in if j<w.heap.size then o j else _)=t
  rw [if_pos (lo (by rw [hj]; exact hne))]; exact hj
 have har:=hR.arK (T:=tPutE) kall (nT (by decide) (by decide) (by decide))
 have hgl:=hR.glK (T:=tPutE) kall (nT (by decide) (by decide) (by decide))
 have hhd:=hR.heldK (T:=tPutE) kall (nT (by decide) (by decide) (by decide)) (nT (by decide) (by decide) (by decide))
 refine ⟨o',{h with T:=T',oo:=(p',n',c')},⟨hself4,e0 (by decide) hR.selfO,ar_grow har (fun i hi=>⟨e0 (by decide) hi.1,hi.2⟩) (fun i hi=>hi.2),hT4,fun j hj=>?_,hO4,fun j hj=>?_,
  own_K (T:=tPutE) hR.out hR.outO kall (nT (by decide) (by decide) (by decide)),fun j hj=>e0 (by decide) (hR.outO j hj),hR.hhl,hR.lsl,
  hR.innK (T:=tPutE) kall (fun i hi=>⟨hi,nT (by omega) (by omega) (by omega)⟩),fun i x hx j hj=>⟨e0 (by omega) (hR.innOK (T:=tPutE) kall i x hx j hj).1,(hR.innOK (T:=tPutE) kall i x hx j hj).2⟩,
  own_K (T:=tPutE) hR.sh hR.shO kall (nT (by decide) (by decide) (by decide)),fun j hj=>e0 (by decide) (hR.shO j hj),own_K (T:=tPutE) hR.le hR.leO kall (nT (by decide) (by decide) (by decide)),fun j hj=>e0 (by decide) (hR.leO j hj),
  blk_K (T:=tPutE) hR.bk hR.bkO kall (nT (by decide) (by decide) (by decide)),e0 (by decide) hR.bkO,own_K (T:=tPutE) hR.lg hR.lgO kall (nT (by decide) (by decide) (by decide)),fun j hj=>e0 (by decide) (hR.lgO j hj),hR.gll,
  fun i x y hx hy=>⟨(hgl i x y hx hy).1,fun j hj=>⟨e0 (by decide) ((hgl i x y hx hy).2 j hj).1,((hgl i x y hx hy).2 j hj).2⟩⟩,
  fun i d' hd'=>by
   obtain ⟨h1,h2,h3,h4⟩:=hhd i d' hd'
   exact ⟨h1,e0 (by decide) h2,h3,fun j hj=>⟨e0 (by decide) (h4 j hj).1,(h4 j hj).2⟩⟩,hR.inj,fun j hj=>?_⟩,fun j hj=>if_pos hj,kall,rfl⟩
 ·show (open Classical in if j<w.heap.size then o j else if T'.F j then -3 else if ob p' j then -4 else -9)=-3
  rcases hF j hj with h1 | h1
  ·rw [if_pos h1.1]; exact h1.2
  ·rw [if_neg (by omega),if_pos hj]
 ·show (open Classical in if j<w.heap.size then o j else if T'.F j then -3 else if ob p' j then -4 else -9)=-4
  rcases pcase j hj with h1 | h1
  ·rw [if_pos h1.1]; exact h1.2
  ·rw [if_neg (by omega),if_neg fun hh=>hdis j hh hj,if_pos hj]
 ·show (open Classical in if j<w.heap.size then o j else if T'.F j then -3 else if ob p' j then -4 else -9)=-9
  rw [if_neg (by omega),if_neg fun hh=>by have:=hT4.lt j hh; omega,if_neg fun hh=>by have:=hO4.lt j hh; omega]
def decA (S:ES) (l:Int):Int:=if ¬(fl l=true∧(l.natAbs:Int)≤S.nv) then 1 else if S.rest=false then 3 else if vl S l≠0 then 50 else 0
def decS (S:ES) (l:Int):ES:=if decA S l=0 then {S with R:=S.R++[⟨l,(S.L.length+1:Nat),-1⟩],L:=S.L++[(S.R.length:Int)],rest:=false} else S
theorem fl_wi {nv:Nat} {l:Int} (h:fl l=true) (hn:(l.natAbs:Int)≤nv):Wi nv l:=by
 have:=fl_iff.1 h
 exact ⟨this.1,by omega,by omega⟩
theorem decide6 {ex : Nat → Prop} {w : World} {b : Nat} {o : Nat → Int} {h : Hs} {S : ES} (hR : Rp ex w b o h S) (l : Int) (hl : -9223372036854775808 ≤ l) :
    Calls Tryz.prog 61 #[Pt b, I l] w fun e w' => e = .returned (I (decA S l)) ∧ Nx tPutE ex w b o h (decS S l) w' := by
  refine (V61_calls (some ⟨b, 0, none⟩) l w (fun v w' => v = I (decA S l) ∧ Nx tPutE ex w b o h (decS S l) w') ?_).mono fun e w' ⟨v, he, hv, hk⟩ => ⟨by rw [he, hv], hk⟩
  unfold V61
  have kd : Keep None w w.drew := (Keep.refl _ _).drew
  have hnv := hR.nv
  have stop : ∀ {W : World} {x : Int}, Keep None w W → decA S l = x → x ≠ 0 → (I x = I (decA S l) ∧ Nx tPutE ex w b o h (decS S l) W) := fun {W x} k e hx => by
    refine ⟨by rw [e], ?_⟩
    unfold decS; rw [if_neg (by rw [e]; exact hx)]
    exact (Nx.refl hR).keep0 k
  refine cl_of ok90 (formedP l) fun e w1 ⟨he, k1⟩ => ⟨_, he, ?_⟩
  have k1' := kd.then0 k1
  have hR1 := hR.keep0 k1'
  cases hf : fl l with
  | false =>
    exact gd_f rfl (gd_f rfl (gd_f rfl ⟨fun hh => (by cases hh), pif_t rfl (stop k1' (by unfold decA; rw [if_pos (by rw [hf]; intro hh; cases hh.1)]) (by decide))⟩))
  | true =>
    have hfl := fl_iff.1 hf
    have c0 : ∀ {K : Int → Prop}, K S.nv → ldI .i64 w1 ((⟨b, 0, none⟩ : Addr).add 0) K := fun hK => by rw [add_mk]; exact ldI_of (hR1.self.cell 0) hK
    refine gd_t rfl (nn_of (gd_t rfl (c0 (gd_t rfl ?_))))
    refine cl_of ok103 (Trail.var52 l w1 hl) fun e w2 ⟨he, hw⟩ => ⟨_, he, ⟨fun _ => ?_, ?_⟩⟩
    · subst hw; exact c0 rfl
    subst hw
    have ev : (if 1 ≤ l.natAbs ∧ l.natAbs ≤ 1048576 then (l.natAbs : Int) else 0) = l.natAbs := if_pos ⟨by omega, by omega⟩
    rw [ev]
    refine pif_of (fun hq => ?_) fun hq => ?_
    · have hq : (S.nv : Int) < l.natAbs := by simpa using hq
      exact stop k1' (by unfold decA; rw [if_pos (by intro hh; omega)]) (by decide)
    have hq : (l.natAbs : Int) ≤ S.nv := by have : ¬ (S.nv : Int) < l.natAbs := by simpa using hq
                                            omega
    have hwi := fl_wi hf hq
    have d1 : decA S l = if S.rest = false then 3 else if vl S l ≠ 0 then 50 else 0 := by unfold decA; rw [if_neg (by intro hh; exact hh ⟨hf, hq⟩)]
    refine nn_of (ldB_of (x := S.rest) (by rw [add_mk]; exact hR1.self.cell 9) ?_)
    cases hr : S.rest with
    | false => exact pif_t rfl (stop k1' (by rw [d1, if_pos hr]) (by decide))
    | true =>
      rw [if_neg (by rw [hr]; decide)] at d1
      refine pif_f rfl (hR1.trAt (hR1.val hl fun w4 k4 => ⟨_, rfl, ?_⟩))
      have k14 := k1'.then0 k4
      by_cases hv : vl S l ≠ 0
      · exact pif_t (by simpa using hv) (stop k14 (by rw [d1, if_pos hv]) (by decide))
      have hv0 : vl S l = 0 := by omega
      rw [if_neg hv] at d1
      have es : decS S l = { S with R := S.R ++ [⟨l, (S.L.length + 1 : Nat), -1⟩], L := S.L ++ [(S.R.length : Int)], rest := false } := by unfold decS; rw [if_pos d1]
      rw [hv0]
      have hR4 := hR.keep0 k14
      refine pif_f rfl (hR4.trAt (cl_of ok106 (hR4.tr.decide l hl) fun e w5 ⟨he, k5, T', hmv, hT5⟩ => ⟨_, he, ?_⟩))
      have hfree : freeA S.nv S.R l = 0 := vl_free hwi hv0
      rw [if_pos hfree, if_pos hfree] at hT5
      have z14 := k14.size
      have z5 := k5.size
      have kt5 : Keep (fun j => (fun t : Int => t = -3) (o j)) w4 w5 := k5.mono fun j _ hj => hR.trO j hj
      have hself5 := blk_K (T := fun t => t = -3) hR4.self hR.selfO kt5 (by decide)
      have hoo5 := own_K (T := fun t => t = -3) hR4.oo hR.ooO kt5 (by decide)
      have hool := own_len hR.oo
      have hsm := hR.tr.small
      rw [List.length_map] at hool
      refine nn_of (ldC_of (x := h.oo.1) (n := h.oo.2.1) (c := h.oo.2.2) (by rw [add_mk]; exact hself5.cell 3) ?_)
      refine alc_at fun b10 w6 hb10 hB10 k6 => ?_
      have z6 := k6.size
      refine app_of2 (e := 3) (sz := 1) (z := I 0) (B := 8) Tryz.underlying49 (by kernel_rfl) rfl (by omega) (hoo5.keep0 k6) hB10.news1 (fun u hu => ?_) (by simp only [maxLen]; omega) (by omega) fun p' c' w7 hO7 hd7 => ?_
      · simp only [List.mem_singleton] at hu; subst hu; rfl
      have kt7 : Keep (fun j => (fun t : Int => t = -4) (o j)) w6 w7 := by
        rcases hd7 with ⟨_, _, _, kk⟩ | ⟨_, kk⟩
        · exact kk.mono fun j _ hj => hR.ooO j hj
        · exact kk.none
      have z7 := kt7.size
      have hself7 := blk_K (T := fun t => t = -4) (hself5.keep0 k6) hR.selfO kt7 (by decide)
      have hbl : b < w.heap.size := hR.self.lt
      refine nn_of ?_
      rw [add_mk, add_mk]
      refine st_of hself7 (by simp) rfl fun w8 hself8 k8 z8 => nn_of ?_
      rw [add_mk, add_mk]
      refine st_of hself8 (by simp) rfl fun w9 hself9 k9 z9 => ⟨by rw [d1], ?_⟩
      rw [es]
      have k89 : Keep (One b) w7 w9 := k8.trans k9 fun _ _ h => h
      have pcase : ∀ j, ob p' j → (j < w.heap.size ∧ o j = -4) ∨ w6.heap.size ≤ j := fun j hj => by
        rcases hd7 with ⟨e, _, _, _⟩ | ⟨e, _⟩
        · rw [e] at hj; exact Or.inl ⟨hR.oo.lt j hj, hR.ooO j hj⟩
        · exact Or.inr (e j hj)
      have hF : ∀ j, T'.F j → (j < w.heap.size ∧ o j = -3) ∨ (w.heap.size ≤ j ∧ j < w5.heap.size) := fun j hj => by
        rcases hmv.2 j hj with h1 | h1
        · exact Or.inl ⟨hR.tr.lt j h1, hR.trO j h1⟩
        · exact Or.inr ⟨by omega, hT5.lt j hj⟩
      refine hR.laid (T' := T') (p' := p') (n' := h.oo.2.1 + 1) (c' := c') (hd := S.head) (r := false) (c := S.clash) (d := S.dead) (x := S.bad) (((((k14.none (S := fun j => tPutE (o j))).trans kt5 fun j _ hh => Or.inr (Or.inl hh)).then0 k6).trans kt7 fun j _ hh => Or.inr (Or.inr hh)).trans k89 fun j _ hh => ?_) (by rw [hmv.1]; exact hself9) (((hT5.keep0 k6).keep kt7 fun j hj hh => ?_).keep k89 fun j hj hh => ?_) (fun j hj => ?_) ?_ (fun j hj => ?_) fun j hj hh => ?_
      · have hj : j = b := hh
        show tPutE (o j)
        rw [hj, hR.selfO]; exact Or.inl rfl
      · have hh' : o j = -4 := hh
        rcases hF j hj with h1 | h1
        · rw [h1.2] at hh'; exact absurd hh' (by decide)
        · rw [hR.nrm j h1.1] at hh'; exact absurd hh' (by decide)
      · have hjb : j = b := hh
        rcases hF j hj with h1 | h1
        · rw [hjb, hR.selfO] at h1; exact absurd h1.2 (by decide)
        · omega
      · rcases hF j hj with h1 | h1
        · exact Or.inl h1
        · exact Or.inr h1.1
      · have e1 : ((S.R ++ [(⟨l, (S.L.length + 1 : Nat), -1⟩ : E)]).map fun e : E => e.lit).map I = (S.R.map fun e => e.lit).map I ++ [I l] := by simp
        rw [e1]
        refine hO7.keep k89 fun j hj hh => ?_
        have hjb : j = b := hh
        rcases pcase j hj with h1 | h1
        · rw [hjb, hR.selfO] at h1; exact absurd h1.2 (by decide)
        · omega
      · rcases pcase j hj with h1 | h1
        · exact Or.inl h1
        · exact Or.inr (by omega)
      · rcases hF j hj with h1 | h1 <;> rcases pcase j hh with h2 | h2
        · omega
        · omega
        · omega
        · omega
def cutS (S:ES) (k:Int):ES:={S with R:=upto k S.R,L:=S.L.take k.toNat,head:=min S.head (upto k S.R).length}
theorem upto_take {n:Nat} {R:List E} {L:List Int} (h:St n R L) {k:Int} (hk0:0≤k) (hk:k≤L.length):upto k R=R.take (R.length - (above k R).length)∧(above k R).length≤R.length:=by
 obtain ⟨m,rfl⟩:∃m:Nat,k=m:=⟨k.toNat,by omega⟩
 by_cases hm:m<L.length
 ·obtain ⟨fr,e1,e2,s1,s2,s3⟩:=h.back m _ (List.getElem?_eq_getElem hm)
  obtain ⟨a1,a2⟩:=Trail.above_drop s2 s3
  rw [a1,a2,List.length_drop]
  exact ⟨by congr 1; omega,by omega⟩
 ·obtain rfl:m=L.length:=by omega
  obtain ⟨a1,a2⟩:=Trail.above_top h (Int.le_refl _)
  rw [a1,a2]
  exact ⟨by simp,by simp⟩
theorem cut47 {ex:Nat→Prop} {w:World} {b:Nat} {o:Nat→Int} {h:Hs} {S:ES} (hR:Rp ex w b o h S) {k:Int} (hk0:0≤k) (hk:k≤S.L.length) :
  Calls Tryz.prog 59 #[Pt b,I k] w fun e w'=>e=.returned (.tuple #[])∧Nx tPutE ex w b o h (cutS S k) w':=by
 refine (V59_calls (some ⟨b,0,none⟩) k w (fun v w'=>v=.tuple #[]∧Nx tPutE ex w b o h (cutS S k) w') ?_).mono fun e w' ⟨v,he,hv,hk⟩=>⟨by rw [he,hv],hk⟩
 unfold V59
 obtain ⟨u1,u2⟩:=upto_take hR.tr.st hk0 hk
 have hsm:=hR.tr.small
 have hool:=own_len hR.oo
 rw [List.length_map] at hool
 refine hR.trAt (cl_of ok104 (hR.tr.back hk0 hk) fun e w1 ⟨p,c,he,hO,hf,k1,hT1⟩=>⟨_,_,_,_,he,?_⟩)
 have kt1:Keep (fun j=>(fun t:Int=>t=-3) (o j)) w w1:=k1.mono fun j _ hj=>hR.trO j hj
 have k1d:=kt1.drew
 have hself1:=blk_K (T:=fun t=>t=-3) hR.self hR.selfO k1d (by decide)
 have hoo1:=own_K (T:=fun t=>t=-3) hR.oo hR.ooO k1d (by decide)
 have c3:∀{K:Option Addr→Nat→Nat→Prop},K h.oo.1 h.oo.2.1 h.oo.2.2→ldC w1.drew ((⟨b,0,none⟩:Addr).add 3) K:=fun hK=>by
  rw [add_mk]; exact ldC_of (x:=h.oo.1) (n:=h.oo.2.1) (c:=h.oo.2.2) (hself1.cell 3) hK
 have ew:IntKind.wrap .i64 ((h.oo.2.1:Int) - ((above k S.R).length:Int))=((S.R.length - (above k S.R).length:Nat):Int):=by
  rw [←hool,IntKind.wrap_i64]; omega
 have hcap:=hR.oo.le
 refine nn_of (c3 (nn_of (c3 ?_)))
 rw [ew]
 refine ⟨by omega,by omega,nn_of ?_⟩
 rw [add_mk,add_mk,Lits.slA_zero,Int.toNat_natCast,Nat.sub_zero,Nat.sub_zero]
 refine st_of hself1 (by simp) rfl fun w2 hB2 k2 z2=>nn_of ?_
 have k2d:=k2.drew
 have hB2d:Blk w2.drew b _ 106:=hB2.keep0 (Keep.refl None w2).drew
 refine ldI_of (x:=S.head) (by rw [add_mk]; exact hB2d.cell 8) (nn_of ?_)
 refine ldC_of (x:=h.oo.1) (n:=S.R.length - (above k S.R).length) (c:=h.oo.2.2) (by rw [add_mk]; exact hB2d.cell 3) (nn_of ?_)
 rw [add_mk,add_mk]
 refine st_of hB2d (by simp) rfl fun w3 hB3 k3 z3=>⟨rfl,?_⟩
 have hul:(upto k S.R).length=S.R.length - (above k S.R).length:=by rw [u1,List.length_take]; omega
 have emin:(if ((S.R.length - (above k S.R).length:Nat):Int)<S.head then ((S.R.length - (above k S.R).length:Nat):Int) else S.head)=((min S.head (upto k S.R).length:Nat):Int):=by
  rw [hul]; split<;>omega
 rw [emin] at hB3
 have k23:Keep (One b) w1.drew w3:=k2d.trans k3 fun _ _ h=>h
 have z1:=k1d.size
 refine hR.laid (T':=h.T) (p':=h.oo.1) (n':=S.R.length - (above k S.R).length) (c':=h.oo.2.2) (hd:=min S.head (upto k S.R).length) (r:=S.rest) (c:=S.clash) (d:=S.dead) (x:=S.bad) ((show Keep (fun j=>tPutE (o j)) w w1.drew from k1d.mono fun j _ hh=>Or.inr (Or.inl hh)).trans k23 fun j _ hh=>?_) hB3 ((hT1.keep0 (Keep.refl None w1).drew).keep k23 fun j hj hh=>?_) (fun j hj=>Or.inl ⟨hR.tr.lt j hj,hR.trO j hj⟩) ?_ (fun j hj=>Or.inl ⟨hR.oo.lt j hj,hR.ooO j hj⟩) fun j hj hh=>?_
 ·have hj:j=b:=hh
  show tPutE (o j)
  rw [hj,hR.selfO]; exact Or.inl rfl
 ·have hjb:j=b:=hh
  have:=hR.trO j hj
  rw [hjb,hR.selfO] at this; exact absurd this (by decide)
 ·have:=hoo1.cut (m:=S.R.length - (above k S.R).length) (by omega)
  rw [Nat.mul_one,←List.map_take,←List.map_take,←u1] at this
  refine this.keep k23 fun j hj hh=>?_
  have hjb:j=b:=hh
  have:=hR.ooO j hj
  rw [hjb,hR.selfO] at this; exact absurd this (by decide)
 ·have h1:=hR.trO j hj
  have h2:=hR.ooO j hh
  omega
def pushL (S:ES) (l:Int) (k:Nat):ES:={S with lists:=S.lists.set (idxN l) (listAt S (idxN l)++[k])}
def watchS (S:ES) (k:Nat) (d:Hd) (a c:Int):ES:=pushL (pushL {S with H:=S.H.set k {d with e0:=a,e1:=c}} a k) c k
def tWat (t:Int):Prop:=t=-5∨t=-12∨0≤t
theorem watch28 {ex:Nat→Prop} {w:World} {b:Nat} {o:Nat→Int} {h:Hs} {S:ES} (hR:Rp ex w b o h S) {k:Nat} {d:Hd} (hd:S.H[k]?=some d) {a c:Int} (ha:Wi S.nv a) (hc:Wi S.nv c) (hls:∀(i:Nat) (ids:List Nat),S.lists[i]?=some ids→ids.length≤17592186044414) (hea:¬ex (idxN a)) (hec:¬ex (idxN c)) :
  Calls Tryz.prog 48 #[Pt b,Pt (h.hb k),I a,I c] w fun e w'=>e=.returned (.tuple #[])∧Nx tWat ex w b o h (watchS S k d a c) w':=by
 refine (V48_calls (some ⟨b,0,none⟩) (some ⟨h.hb k,0,none⟩) a c w (fun v w'=>v=.tuple #[]∧Nx tWat ex w b o h (watchS S k d a c) w') ?_).mono fun e w' ⟨v,he,hv,hk⟩=>⟨by rw [he,hv],hk⟩
 unfold V48
 have hnv:=hR.nv
 refine setEyes hR hd fun w2 hR2 k2 z2=>?_
 have hkl:=(List.getElem?_eq_some_iff.1 hd).1
 have hd2:(S.H.set k {d with e0:=a,e1:=c})[k]?=some {d with e0:=a,e1:=c}:=List.getElem?_set_self hkl
 obtain ⟨hB2,_⟩:=hR2.held k _ hd2
 refine nn_of (ldI_of (x:=a) (by rw [add_mk,add_mk]; exact hB2.cell 2) (ldI_of (x:=c) (by rw [add_mk,add_mk]; exact hB2.cell 3) ?_))
 have kd:∀W:World,Keep None W W.drew:=fun W=>(Keep.refl _ _).drew
 have self4:∀{V:World} {o1:Nat→Int} {h1:Hs} {S1:ES} {ex1:Nat→Prop},Rp ex1 V b o1 h1 S1→∀{K:Option Addr→Nat→Nat→Prop},K h1.ll.1 h1.ll.2.1 h1.ll.2.2→ldC V ((⟨b,0,none⟩:Addr).add 4) K:=fun {V o1 h1 S1 ex1} hRV {K} hK=>by
  rw [add_mk]
  exact ldC_of (x:=h1.ll.1) (n:=h1.ll.2.1) (c:=h1.ll.2.2) (hRV.self.cell 4) hK
 have k02:Keep (fun j=>tWat (o j)) w w2:=k2.mono fun j _ hh=>Or.inr (Or.inl hh)
 have N0:Nx tWat ex w b o h {S with H:=S.H.set k {d with e0:=a,e1:=c}} w2:=⟨o,h,hR2,Ag.refl _ _,k02,rfl⟩
 have tp:∀i t,tPush i t→tWat t:=fun i t hh=>by rcases hh with hh | hh; exact Or.inl hh; exact Or.inr (Or.inr (by omega))
 refine lp_of (fun s W=>(s.1=0∧Nx tWat ex w b o h {S with H:=S.H.set k {d with e0:=a,e1:=c}} W)∨(s.1=1∧Nx tWat ex w b o h (pushL {S with H:=S.H.set k {d with e0:=a,e1:=c}} a k) W)∨(s.1=2∧Nx tWat ex w b o h (watchS S k d a c) W)) (fun s _=>(2 - s.1).toNat) (Or.inl ⟨rfl,N0⟩) ?_
 rintro ⟨i,⟨⟩⟩ W hI
 dsimp only at hI ⊢
 rcases hI with ⟨rfl,o1,h1,r1,a1,k1,e1⟩ | ⟨rfl,o1,h1,r1,a1,k1,e1⟩ | ⟨rfl,hN⟩
 ·refine pif_t rfl ⟨by omega,by omega,a,rfl,?_⟩
  have rd:=r1.keep0 (kd W)
  refine nn_of (self4 rd (nn_of (self4 rd ?_)))
  obtain ⟨ids,hids⟩:=getE (show idxN a<S.lists.length by rw [hR.lsl]; exact idxN_lt ha)
  have eids:listAt S (idxN a)=ids:=by unfold listAt; rw [hids]; rfl
  have hP:=push3 rd (by exact hnv) (l:=a) (by exact ha) (k:=k) (by exact hids) hea (by have:=hls _ _ hids; omega) (K:=fun w'=>((((1:Int)=0∧Nx tWat ex w b o h {S with H:=S.H.set k {d with e0:=a,e1:=c}} w')∨((1:Int)=1∧Nx tWat ex w b o h (pushL {S with H:=S.H.set k {d with e0:=a,e1:=c}} a k) w')∨((1:Int)=2∧Nx tWat ex w b o h (watchS S k d a c) w'))∧(2 - (1:Int)).toNat<(2 - (0:Int)).toNat)) fun w' hN=>⟨Or.inr (Or.inl ⟨rfl,?_⟩),by decide⟩
  ·rw [e1] at hP
   exact hP
  ·obtain ⟨o2,h2,r2,a2,k3,e2⟩:=hN.before (kd W)
   refine ⟨o2,h2,?_,a1.trans a2 k1.size,k1.trans k3 fun j hj hh=>by rw [←a1 j hj]; exact tp _ _ hh,e2.trans e1⟩
   unfold pushL listAt
   rw [show ({S with H:=S.H.set k {d with e0:=a,e1:=c}} : ES).lists[idxN a]?.getD []=ids from eids]
   exact r2
 ·refine pif_t rfl ⟨by omega,by omega,c,rfl,?_⟩
  have rd:=r1.keep0 (kd W)
  refine nn_of (self4 rd (nn_of (self4 rd ?_)))
  obtain ⟨ids,hids⟩:=getE (show idxN c<(pushL {S with H:=S.H.set k {d with e0:=a,e1:=c}} a k).lists.length by unfold pushL; rw [List.length_set,hR.lsl]; exact idxN_lt hc)
  have eids:listAt (pushL {S with H:=S.H.set k {d with e0:=a,e1:=c}} a k) (idxN c)=ids:=by unfold listAt; rw [hids]; rfl
  have hlen:ids.length≤17592186044415:=by
   have hq:(S.lists.set (idxN a) (listAt S (idxN a)++[k]))[idxN c]?=some ids:=hids
   rw [List.getElem?_set] at hq
   split at hq
   ·split at hq
    ·injection hq with hq
     rw [←hq,List.length_append]
     obtain ⟨ids',hids'⟩:=getE (show idxN a<S.lists.length by rw [hR.lsl]; exact idxN_lt ha)
     have:listAt S (idxN a)=ids':=by unfold listAt; rw [hids']; rfl
     rw [this]
     have:=hls _ _ hids'
     simp only [List.length_singleton]; omega
    ·cases hq
   ·have:=hls _ _ hq; omega
  have hP:=push3 rd (by exact hnv) (l:=c) (by exact hc) (k:=k) hids hec hlen (K:=fun w'=>((((2:Int)=0∧Nx tWat ex w b o h {S with H:=S.H.set k {d with e0:=a,e1:=c}} w')∨((2:Int)=1∧Nx tWat ex w b o h (pushL {S with H:=S.H.set k {d with e0:=a,e1:=c}} a k) w')∨((2:Int)=2∧Nx tWat ex w b o h (watchS S k d a c) w'))∧(2 - (2:Int)).toNat<(2 - (1:Int)).toNat)) fun w' hN=>⟨Or.inr (Or.inr ⟨rfl,?_⟩),by decide⟩
  ·rw [e1] at hP
   exact hP
  ·obtain ⟨o2,h2,r2,a2,k3,e2⟩:=hN.before (kd W)
   refine ⟨o2,h2,?_,a1.trans a2 k1.size,k1.trans k3 fun j hj hh=>by rw [←a1 j hj]; exact tp _ _ hh,e2.trans e1⟩
   unfold watchS
   rw [show pushL (pushL {S with H:=S.H.set k {d with e0:=a,e1:=c}} a k) c k={pushL {S with H:=S.H.set k {d with e0:=a,e1:=c}} a k with lists:=(pushL {S with H:=S.H.set k {d with e0:=a,e1:=c}} a k).lists.set (idxN c) (ids++[k])} by unfold pushL at eids ⊢; rw [eids]]
   exact r2
 ·exact pif_f rfl ⟨rfl,hN⟩
end Go.Proofs.YtmhjehodfggleaaGreat.Eng

/- The conditions under which the functions printed here return, as propositions over typed values; each is the machine's own, by the generator's theorem. -/

set_option linter.unusedVariables false
set_option maxRecDepth 100000
namespace Go.Proofs.YtmhjehodfggleaaGreat.T
open Go Go.Proofs.YtmhjehodfggleaaGreat.Vc
def V95 (a0:Option Addr) (a1:Int) (a2:Value) (w:World) (R:Value→World→Prop):Prop:=
 alc w [.int .i64 0,.int .i64 0,.slice none 0 0] 164 fun b2 w1=>
 cl Tryz.prog 103 [.int .i64 a1] w1 fun e5 w2=>∃x4:Int,e5=Ending.returned (.int .i64 x4)∧
 nn a0 fun p7=>
 ldP w2 (p7.add 2) fun x8=>
 cl Tryz.prog 102 [.pointer x8,.int .i64 x4] w2 fun e10 w3=>∃x9:Int,e10=Ending.returned (.int .i64 x9)∧
 alc w3 [.int .i64 0,.int .i64 0,.slice none 0 0] 164 fun b11 w4=>
 st w4 ((⟨b11,0,none⟩:Addr).add 0) (.int .i64 a1) fun w5=>
 st w5 ((⟨b11,0,none⟩:Addr).add 1) (.int .i64 x9) fun w6=>
 st w6 ((⟨b11,0,none⟩:Addr).add 2) (.slice none 0 0) fun w7=>
 jn (σ:=Unit) (fun k12=>
  nn a0 fun p15=>
  ldP w7 (p15.add 2) fun x16=>
  cl Tryz.prog 135 [.pointer x16,.int .i64 x4] w7 fun e18 w9=>∃x17:Int,e18=Ending.returned (.int .i64 x17)∧
  pif (decide (x17≥0)) (
   clF Tryz.prog (a2) [.int .i64 x17] w9 fun e23 w10=>∃(x21:Option Addr) (x21n x21c:Nat),∃x22:Bool,e23=Ending.returned (.tuple #[.slice x21 x21n x21c,.bool x22])∧
   st w10 (((⟨b11,0,none⟩:Addr).add 2).add 0) (.slice x21 x21n x21c) fun w11=>
   k12 (()) w11) (
   k12 (()) w9)) fun s13 w8=>match s13 with
 | (_)=>
 ldI .i64 w8 ((⟨b11,0,none⟩:Addr).add 0) fun x25=>
 ldI .i64 w8 ((⟨b11,0,none⟩:Addr).add 1) fun x26=>
 ldC w8 ((⟨b11,0,none⟩:Addr).add 2) fun x27 x27n x27c=>
 st w8 ((⟨b2,0,none⟩:Addr).add 0) (.int .i64 x25) fun w12=>
 st w12 ((⟨b2,0,none⟩:Addr).add 1) (.int .i64 x26) fun w13=>
 st w13 ((⟨b2,0,none⟩:Addr).add 2) (.slice x27 x27n x27c) fun w14=>
 ldI .i64 w14 ((⟨b2,0,none⟩:Addr).add 0) fun x28=>
 ldI .i64 w14 ((⟨b2,0,none⟩:Addr).add 1) fun x29=>
 ldC w14 ((⟨b2,0,none⟩:Addr).add 2) fun x30 x30n x30c=>
 R (.agg #[.int .i64 x28,.int .i64 x29,.slice x30 x30n x30c]) w14
def An95:An:=.seq (.leaf) (.seq (.leaf) (.seq (.leaf) (.seq (.join [] (.seq (.leaf) (.seq (.leaf) (.cond (.leaf) (.leaf))))) (.seq (.leaf) (.leaf)))))
theorem V95_eq (a0:Option Addr) (a1:Int) (a2:Value) (w:World) (R:Value→World→Prop):evF Tryz.prog Tryz.f95 An95 [.pointer a0,.int .i64 a1,a2] w R=V95 a0 a1 a2 w R:=by kernel_rfl
theorem V95_calls (a0:Option Addr) (a1:Int) (a2:Value) (w:World) (R:Value→World→Prop) (h:V95 a0 a1 a2 w R):Calls Tryz.prog 95 #[.pointer a0,.int .i64 a1,a2] w fun e w'=>∃v,e=.returned v∧R v w':=
 calls_of_ev (args:=[.pointer a0,.int .i64 a1,a2]) Tryz.func95 (Nat.le_of_ble_eq_true (by kernel_rfl)) (by rw [V95_eq]; exact h)
theorem ok95:fnOk Tryz.prog 95=true:=by kernel_rfl
def V141 (a0_0:Int) (a0_1:Int) (a0_2:Option Addr) (a0_2n:Nat) (a0_2c:Nat) (c0:Addr) (w:World) (R:Value→World→Prop):Prop:=
 alc w [.int .i64 a0_0,.int .i64 a0_1,.slice a0_2 a0_2n a0_2c] 164 fun b2 w1=>
 ldC (World.drew w1) ((⟨b2,0,none⟩:Addr).add 2) fun x3 x3n x3c=>
 gd (α:=(Option Addr×Nat×Nat)) (decide ((x3n:Int)>0)) (fun k4=>
  ldC (World.drew w1) ((⟨b2,0,none⟩:Addr).add 2) fun x5 x5n x5c=>
  k4 (x5,x5n,x5c) (World.drew w1)) (none,0,0) (World.drew w1) fun x6 _=>
 gd (α:=(Option Addr)) (decide ((x3n:Int)>0)) (fun k7=>
  ldP (World.drew w1) c0 fun x8=>
  k7 x8 (World.drew w1)) none (World.drew w1) fun x9 _=>
 gd (α:=Addr) (decide ((x3n:Int)>0)) (fun k10=>
  nn x9 fun p11=>
  k10 p11 (World.drew w1)) ⟨0,0,none⟩ (World.drew w1) fun x12 _=>
 gd (α:=(Option Addr×Nat×Nat)) (decide ((x3n:Int)>0)) (fun k13=>
  ldC (World.drew w1) (x12.add 1) fun x14 x14n x14c=>
  k13 (x14,x14n,x14c) (World.drew w1)) (none,0,0) (World.drew w1) fun x15 _=>
 gd (α:=Bool) (decide ((x3n:Int)>0)) (fun k16=>
  cl Tryz.prog 142 [.slice x6.1 x6.2.1 x6.2.2,.slice x15.1 x15.2.1 x15.2.2] (World.drew w1) fun e18 w2=>∃x17:Bool,e18=Ending.returned (.bool x17)∧
  k16 x17 w2) false (World.drew w1) fun x19 w3=>
 R (.bool (cond (decide ((x3n:Int)>0)) x19 false)) w3
def An141:An:=.seq (.leaf) (.seq (.draw [0,1,3,7,15,31,63,31,159,415,927,2047,4095,8191]) (.leaf))
theorem V141_eq (a0_0:Int) (a0_1:Int) (a0_2:Option Addr) (a0_2n:Nat) (a0_2c:Nat) (c0:Addr) (w:World) (R:Value→World→Prop):evF Tryz.prog Tryz.f141 An141 [.agg #[.int .i64 a0_0,.int .i64 a0_1,.slice a0_2 a0_2n a0_2c],.pointer (some c0)] w R=V141 a0_0 a0_1 a0_2 a0_2n a0_2c c0 w R:=by kernel_rfl
theorem V141_calls (a0_0:Int) (a0_1:Int) (a0_2:Option Addr) (a0_2n:Nat) (a0_2c:Nat) (c0:Addr) (w:World) (R:Value→World→Prop) (h:V141 a0_0 a0_1 a0_2 a0_2n a0_2c c0 w R):Calls Tryz.prog 141 #[.agg #[.int .i64 a0_0,.int .i64 a0_1,.slice a0_2 a0_2n a0_2c],.pointer (some c0)] w fun e w'=>∃v,e=.returned v∧R v w':=
 calls_of_ev (args:=[.agg #[.int .i64 a0_0,.int .i64 a0_1,.slice a0_2 a0_2n a0_2c],.pointer (some c0)]) Tryz.func141 (Nat.le_of_ble_eq_true (by kernel_rfl)) (by rw [V141_eq]; exact h)
theorem ok141:fnOk Tryz.prog 141=true:=by kernel_rfl
def V57 (a0:Option Addr) (a0n:Nat) (a0c:Nat) (a1:Value) (w:World) (R:Value→World→Prop):Prop:=
 jn (σ:=Unit) (fun k2=>
  pif (decide ((a0n:Int)<1)) (
   False) (
   k2 (()) w)) fun s3 w1=>match s3 with
 | (_)=>
 ixA a0 a0n 0 1 fun p7=>
 ldI .i64 w1 p7 fun x8=>
 lp (σ:=Int×Int×Unit) (fun s13 w2 k12=>match s13 with
  | (v10,v11,_)=>
  pif (decide (v11<(a0n:Int))) (
   jn (σ:=Int×Unit) (fun k16=>
    ixA a0 a0n v11 1 fun p19=>
    ldI .i64 w2 p19 fun x20=>
    clF Tryz.prog (a1) [.int .i64 x20,.int .i64 v10] w2 fun e22 w4=>∃x21:Int,e22=Ending.returned (.int .i64 x21)∧
    pif (decide (x21>0)) (
     ixA a0 a0n v11 1 fun p24=>
     ldI .i64 w4 p24 fun x25=>
     k16 (x25,()) w4) (
     k16 (v10,()) w4)) fun s17 w3=>match s17 with
   | (v15,_)=>
   k12 (v15,(IntKind.wrap .i64 (v11+1)),()) w3) (
   R (.int .i64 v10) w2)) (x8,1,()) w1
def An57:An:=.seq (.leaf) (.seq (.join [] (.seq (.leaf) (.cond (.leaf) (.leaf)))) (.seq (.leaf) (.seq (.seq (.leaf) (.blk (.loop [(5,.one (.int .i64)),(6,.one (.int .i64))] (.seq (.seq (.leaf) (.cond (.leaf) (.leaf))) (.seq (.join [(5,.one (.int .i64))] (.blk (.seq (.leaf) (.cond (.leaf) (.leaf))))) (.leaf)))))) (.seq (.leaf) (.leaf)))))
theorem V57_eq (a0:Option Addr) (a0n:Nat) (a0c:Nat) (a1:Value) (w:World) (R:Value→World→Prop):evF Tryz.prog Tryz.f57 An57 [.slice a0 a0n a0c,a1] w R=V57 a0 a0n a0c a1 w R:=by kernel_rfl
theorem V57_calls (a0:Option Addr) (a0n:Nat) (a0c:Nat) (a1:Value) (w:World) (R:Value→World→Prop) (h:V57 a0 a0n a0c a1 w R):Calls Tryz.prog 57 #[.slice a0 a0n a0c,a1] w fun e w'=>∃v,e=.returned v∧R v w':=
 calls_of_ev (args:=[.slice a0 a0n a0c,a1]) Tryz.func57 (Nat.le_of_ble_eq_true (by kernel_rfl)) (by rw [V57_eq]; exact h)
theorem ok57:fnOk Tryz.prog 57=true:=by kernel_rfl
def V110 (a0:Option Addr) (a0n:Nat) (a0c:Nat) (a1:Int) (a2:Int) (w:World) (R:Value→World→Prop):Prop:=
 (0:Int)≤(a0n:Int)∧(a0n:Int)≤(a0c:Int)∧(0:Int)≤a2∧a2≤(a0n:Int)∧(0:Int)≤a1∧a1≤a2∧
 pif (a1==a2) (
  R (.slice a0 a0n a0c) w) (
  (0:Int)≤a1∧a1≤(a0c:Int)∧
  (0:Int)≤a2∧a2≤(a0n:Int)∧
  ∃(x6:Option Addr) (x6n x6c:Nat),∃w1:World,(Builtin.append_ #[101,101] 101 #[.slice (slA a0 a0c 0 1) ((Int.toNat a1) - 0) (a0c - 0),.slice (slA a0 a0c (Int.toNat a2) 1) (a0n - (Int.toNat a2)) (a0c - (Int.toNat a2))]).run Tryz.prog (World.drew w)=.ok (.slice x6 x6n x6c) w1∧
  (0:Int)≤(a0n:Int)∧(a0n:Int)≤(x6c:Int)∧(0:Int)≤(x6n:Int)∧(x6n:Int)≤(a0n:Int)∧
  ∃w2:World,(Builtin.clear_ #[101] 0 #[.slice (slA x6 x6c (Int.toNat (x6n:Int)) 1) ((Int.toNat (a0n:Int)) - (Int.toNat (x6n:Int))) (x6c - (Int.toNat (x6n:Int)))]).run Tryz.prog w1=.ok (.tuple #[]) w2∧
  R (.slice x6 x6n x6c) w2)
def An110:An:=.seq (.leaf) (.seq (.leaf) (.seq (.seq (.leaf) (.cond (.seq (.leaf) (.leaf)) (.leaf))) (.seq (.leaf) (.seq (.draw [0,0,3,0,0,24,63,127]) (.seq (.leaf) (.seq (.leaf) (.leaf)))))))
theorem V110_eq (a0:Option Addr) (a0n:Nat) (a0c:Nat) (a1:Int) (a2:Int) (w:World) (R:Value→World→Prop):evF Tryz.prog Tryz.f110 An110 [.slice a0 a0n a0c,.int .i64 a1,.int .i64 a2] w R=V110 a0 a0n a0c a1 a2 w R:=by kernel_rfl
theorem V110_calls (a0:Option Addr) (a0n:Nat) (a0c:Nat) (a1:Int) (a2:Int) (w:World) (R:Value→World→Prop) (h:V110 a0 a0n a0c a1 a2 w R):Calls Tryz.prog 110 #[.slice a0 a0n a0c,.int .i64 a1,.int .i64 a2] w fun e w'=>∃v,e=.returned v∧R v w':=
 calls_of_ev (args:=[.slice a0 a0n a0c,.int .i64 a1,.int .i64 a2]) Tryz.func110 (Nat.le_of_ble_eq_true (by kernel_rfl)) (by rw [V110_eq]; exact h)
theorem ok110:fnOk Tryz.prog 110=true:=by kernel_rfl
def V140 (a0:Option Addr) (a0n:Nat) (a0c:Nat) (a1:Value) (w:World) (R:Value→World→Prop):Prop:=
 cl Tryz.prog 163 [.slice a0 a0n a0c,a1] w fun e4 w1=>∃x3:Int,e4=Ending.returned (.int .i64 x3)∧
 R (.bool (decide (x3≥0))) w1
def An140:An:=.seq (.leaf) (.seq (.leaf) (.leaf))
theorem V140_eq (a0:Option Addr) (a0n:Nat) (a0c:Nat) (a1:Value) (w:World) (R:Value→World→Prop):evF Tryz.prog Tryz.f140 An140 [.slice a0 a0n a0c,a1] w R=V140 a0 a0n a0c a1 w R:=by kernel_rfl
theorem V140_calls (a0:Option Addr) (a0n:Nat) (a0c:Nat) (a1:Value) (w:World) (R:Value→World→Prop) (h:V140 a0 a0n a0c a1 w R):Calls Tryz.prog 140 #[.slice a0 a0n a0c,a1] w fun e w'=>∃v,e=.returned v∧R v w':=
 calls_of_ev (args:=[.slice a0 a0n a0c,a1]) Tryz.func140 (Nat.le_of_ble_eq_true (by kernel_rfl)) (by rw [V140_eq]; exact h)
theorem ok140:fnOk Tryz.prog 140=true:=by kernel_rfl
def V163 (a0:Option Addr) (a0n:Nat) (a0c:Nat) (a1:Value) (w:World) (R:Value→World→Prop):Prop:=
 lp (σ:=Int×Unit) (fun s5 w1 k4=>match s5 with
  | (v3,_)=>
  pif (decide (v3<(a0n:Int))) (
   ixA a0 a0n v3 3 fun p9=>
   ldI .i64 w1 (p9.add 0) fun x10=>
   ldI .i64 w1 (p9.add 1) fun x11=>
   ldC w1 (p9.add 2) fun x12 x12n x12c=>
   clF Tryz.prog (a1) [.agg #[.int .i64 x10,.int .i64 x11,.slice x12 x12n x12c]] w1 fun e14 w2=>∃x13:Bool,e14=Ending.returned (.bool x13)∧
   pif x13 (
    R (.int .i64 v3) w2) (
    k4 ((IntKind.wrap .i64 (v3+1)),()) w2)) (
   R (.int .i64 (-1)) w1)) (0,()) w
def An163:An:=.seq (.leaf) (.seq (.seq (.leaf) (.blk (.loop [(8,.one (.int .i64))] (.seq (.leaf) (.seq (.cond (.leaf) (.leaf)) (.seq (.blk (.seq (.leaf) (.seq (.leaf) (.cond (.seq (.leaf) (.leaf)) (.leaf))))) (.leaf))))))) (.seq (.leaf) (.leaf)))
theorem V163_eq (a0:Option Addr) (a0n:Nat) (a0c:Nat) (a1:Value) (w:World) (R:Value→World→Prop):evF Tryz.prog Tryz.f163 An163 [.slice a0 a0n a0c,a1] w R=V163 a0 a0n a0c a1 w R:=by kernel_rfl
theorem V163_calls (a0:Option Addr) (a0n:Nat) (a0c:Nat) (a1:Value) (w:World) (R:Value→World→Prop) (h:V163 a0 a0n a0c a1 w R):Calls Tryz.prog 163 #[.slice a0 a0n a0c,a1] w fun e w'=>∃v,e=.returned v∧R v w':=
 calls_of_ev (args:=[.slice a0 a0n a0c,a1]) Tryz.func163 (Nat.le_of_ble_eq_true (by kernel_rfl)) (by rw [V163_eq]; exact h)
theorem ok163:fnOk Tryz.prog 163=true:=by kernel_rfl
end Go.Proofs.YtmhjehodfggleaaGreat.T

/- Structs of whole numbers and truths, held against one another. -/

set_option linter.unusedVariables false
set_option linter.unusedSimpArgs false
namespace Go.Proofs.YtmhjehodfggleaaGreat.Vc
open Go
def eqL:(ls:List Leaf)→TupL ls→TupL ls→Bool
 | [],_,_=>true
 | .int _ :: ls,x,y=>decide (x.1=y.1)&&eqL ls x.2 y.2
 | .bool :: ls,x,y=>(x.1==y.1)&&eqL ls x.2 y.2
 | _ :: _,_,_=>false
def isIntB (P:Program) (t:TypeId):Bool:=match P.underlying t with | some (.int _)=>true | _=>false
def isBoolB (P:Program) (t:TypeId):Bool:=match P.underlying t with | some .bool=>true | _=>false
def flatF (P:Program):List Field→List Leaf→Nat→Bool
 | [],[],_=>true
  | f :: fs, l :: ls, i => decide (f.name ≠ "_") && (Nat.beq f.offset i && ((match l with | .int _ => isIntB P f.type | .bool => isBoolB P f.type | _ => false) && flatF P fs ls (i + 1)))
 | _,_,_=>false
def flatS (P:Program) (t:TypeId) (ls:List Leaf):Bool:=
 (match P.underlying t with | some (.struct fs)=>flatF P fs.toList ls 0 | _=>false)&&(!(P.stoodInHeld t)&&!(P.eqGuardType P.depth t))
theorem run_part1 {P:Program} {t:TypeId} {cs:Array Value} {i:Nat} {v:Value} (ha:isAggB P t=some false) (hv:cs[i]?=some v) (w:World):(part t cs i).run P w=.ok v w:=by
 simp [part,run_isAgg ha,hv]
theorem eqFields_flat {P:Program} {d:Nat} {X Y:Array Value} {w:World} : ∀(fs:List Field) (ls:List Leaf) (i:Nat) (x y:TupL ls),flatF P fs ls i=true→
  (∀j v,(lvals ls x)[j]?=some v→X[i+j]?=some v)→(∀j v,(lvals ls y)[j]?=some v→Y[i+j]?=some v)→
  (Op.eqFields (d+1) X Y fs).run P w=.ok (eqL ls x y) w:=by
 intro fs
 induction fs with
 | nil=>
  intro ls i x y h hx hy
  cases ls with
  | nil=>simp [Op.eqFields,eqL]
  | cons l ls=>simp [flatF] at h
 | cons f fs ih=>
  intro ls i x y h hx hy
  cases ls with
  | nil=>simp [flatF] at h
  | cons l ls=>
   simp only [flatF,Bool.and_eq_true,decide_eq_true_eq] at h
   obtain ⟨h1,h2,h3,h4⟩:=h
   have h2:=Nat.eq_of_beq_eq_true h2
   have hx0:=hx 0 (lval l x.1) rfl
   have hy0:=hy 0 (lval l y.1) rfl
   rw [Nat.add_zero,←h2] at hx0 hy0
   have ih':=ih ls (i+1) x.2 y.2 h4 (fun j v hj=>by have:=hx (j+1) v hj; rwa [show i+(j+1)=i+1+j by omega] at this)
    (fun j v hj=>by have:=hy (j+1) v hj; rwa [show i+(j+1)=i+1+j by omega] at this)
   cases l<;>simp only [] at h3<;>try (cases h3; done)
   case int k=>
    unfold isIntB at h3
    split at h3
    ·rename_i k' hu
     have ha:isAggB P f.type=some false:=by unfold isAggB; rw [hu]
     simp only [Op.eqFields]
     rw [if_pos h1]
     simp only [Sem.run_bind,run_part1 ha hx0,run_part1 ha hy0,Result.andThen_ok,lval,run_equalIn_int w d f.type k k' _ _ hu,Sem.run_ite,Sem.run_pure,ih']
     by_cases he:x.1=y.1
     ·simp [eqL,he]
     ·simp [eqL,he]
    ·cases h3
   case bool=>
    unfold isBoolB at h3
    split at h3
    ·rename_i hu
     have ha:isAggB P f.type=some false:=by unfold isAggB; rw [hu]
     simp only [Op.eqFields]
     rw [if_pos h1]
     simp only [Sem.run_bind,run_part1 ha hx0,run_part1 ha hy0,Result.andThen_ok,lval,run_equalIn_bool' w d f.type _ _ hu,Sem.run_ite,Sem.run_pure,ih']
     have:∀b c:Bool,(b==c)=true∨(b==c)=false:=fun b c=>by cases b<;>cases c<;>simp
     rcases this x.1 y.1 with he | he
     ·simp [eqL,he]
     ·simp [eqL,he]
    ·cases h3
theorem eqV_flat {P:Program} {t:TypeId} {ls:List Leaf} (x y:TupL ls) (h:flatS P t ls=true) (w:World):(Op.equalIn 10000 t (.agg (lvals ls x).toArray) (.agg (lvals ls y).toArray)).run P w=.ok (eqL ls x y) w:=by
 unfold flatS at h
 simp only [Bool.and_eq_true,Bool.not_eq_true'] at h
 obtain ⟨h1,h2,h3⟩:=h
 split at h1
 ·rename_i fs hu
  have hf:P.fieldsOf t=fs:=by simp [Program.fieldsOf,hu]
  rw [run_equalIn_struct w 9999 t _ _ (by rw [hf]; exact hu) h2,hf]
  exact eqFields_flat fs.toList ls 0 x y h1 (fun j v hj=>by simpa using hj) (fun j v hj=>by simpa using hj)
 ·cases h1
theorem eqV_eql {P:Program} {t:TypeId} (ls:List Leaf) (x y:TupL ls) (h:flatS P t ls=true) {K:Bool→Prop} (hk:K (eqL ls x y)):eqV P .eql t (.agg (lvals ls x).toArray) (.agg (lvals ls y).toArray) K:=by
 refine ⟨_,fun w a b=>?_,hk⟩
 have hg:P.eqGuardType P.depth t=false:=by simp only [flatS,Bool.and_eq_true,Bool.not_eq_true'] at h; exact h.2.2
 rw [Sem.run_bind,run_eqGuard_agg w .eql t a b _ _ hg,Result.andThen_ok,run_eql_struct,eqV_flat x y h]
 rfl
theorem eqV_neq {P:Program} {t:TypeId} (ls:List Leaf) (x y:TupL ls) (h:flatS P t ls=true) {K:Bool→Prop} (hk:K (!(eqL ls x y))):eqV P .neq t (.agg (lvals ls x).toArray) (.agg (lvals ls y).toArray) K:=by
 refine ⟨_,fun w a b=>?_,hk⟩
 have hg:P.eqGuardType P.depth t=false:=by simp only [flatS,Bool.and_eq_true,Bool.not_eq_true'] at h; exact h.2.2
 rw [Sem.run_bind,run_eqGuard_agg w .neq t a b _ _ hg,Result.andThen_ok,run_neq_struct,eqV_flat x y h]
 rfl
end Go.Proofs.YtmhjehodfggleaaGreat.Vc
