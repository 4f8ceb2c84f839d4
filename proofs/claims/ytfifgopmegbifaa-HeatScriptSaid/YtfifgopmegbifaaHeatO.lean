/- Order, Take and Put as HeatOrders asks them. -/
import Derived.Test.YtfifgopmegbifaaHeatF
import Derived.Test.YtfifgopmegbifaaHeatS
set_option linter.unusedVariables false
set_option linter.unusedSimpArgs false
set_option maxRecDepth 100000
namespace Go.Proofs.Ytfifgopmegbifaa.Heat
open Go Go.Proofs.Ytfifgopmegbifaa.Vc Go.Proofs.Ytfifgopmegbifaa.T
open Go.Proofs.Ytfifgopmegbifaa.Apart (RdL own_rdl wrap_nat Ls Sl sv Ag Lists getE own_len copy same apart take_snoc)

section
variable {n : Nat} {w : World} {Q : HI} {sc : List Nat} {step decay : Nat} {wb : List Bool}
theorem inA_rng {v : Int} (h : inA n wb v = true) : 1 ≤ v ∧ v ≤ n := by
  unfold inA at h
  simp only [Bool.and_eq_true, decide_eq_true_eq] at h
  exact h.1
theorem inA_set {v u : Int} (hv : 1 ≤ v ∧ v ≤ n) (hl : wb.length = n) (b : Bool) : inA n (wb.set (v - 1).toNat b) u = if u = v then b else inA n wb u := by
  unfold inA
  by_cases hu : 1 ≤ u ∧ u ≤ n
  · rw [isIn_set hv hu hl]
    simp only [hu.1, hu.2, decide_true, Bool.true_and]
  · have e : (decide (1 ≤ u) && decide (u ≤ (n : Int))) = false := by
      rw [Bool.and_eq_false_iff, decide_eq_false_iff_not, decide_eq_false_iff_not]
      omega
    rw [e, Bool.false_and, Bool.false_and, if_neg]
    rintro rfl
    exact hu hv
theorem PH.ahead (h : PH n w Q sc step decay wb) {v u : Int} (hv : 1 ≤ v ∧ v ≤ n) (hu : 1 ≤ u ∧ u ≤ n) :
    Calls Try.prog 24 #[.pointer (some ⟨Q.h, 0, none⟩), I v, I u] w fun e w' => e = .returned (.bool (bfw sc v u)) ∧ w' = w := by
  refine (V24_calls (some ⟨Q.h, 0, none⟩) v u w (fun r w' => r = .bool (bfw sc v u) ∧ w' = w) ?_).mono fun e w' ⟨v, he, hv, hk⟩ => ⟨by rw [he, hv], hk⟩
  unfold V24
  refine cl_of ok11 (h.score v) fun e w1 ⟨hw, he⟩ => ⟨_, _, he.trans (by rw [if_pos hv]), ?_⟩
  subst hw
  refine cl_of ok11 (h.score u) fun e w2 ⟨hw, he⟩ => ⟨_, _, he.trans (by rw [if_pos hu]), ?_⟩
  subst hw
  exact ⟨rfl, rfl⟩
theorem has23 {p : Option Addr} {m c : Nat} {cs : List Int} (h : RdL w p m cs) (hm : m ≤ 1099511627776) (x : Int) :
    Calls Try.prog 23 #[.slice p m c, I x] w fun e w' => e = .returned (.bool (decide (x ∈ cs))) ∧ w' = w := by
  refine (V23_calls p m c x w (fun r w' => r = .bool (decide (x ∈ cs)) ∧ w' = w) ?_).mono fun e w' ⟨v, he, hv, hk⟩ => ⟨by rw [he, hv], hk⟩
  unfold V23
  have hl := h.len
  refine lp_of (fun s w1 => ∃ i : Nat, s.1 = i ∧ i ≤ m ∧ x ∉ cs.take i ∧ w1 = w) (fun s _ => (m - s.1).toNat) ⟨0, rfl, Nat.zero_le _, by simp, rfl⟩ ?_
  rintro ⟨i', ⟨⟩⟩ w1 ⟨i, rfl, hi, hno, rfl⟩
  simp only []
  refine pif_of (fun hlt => ?_) fun hge => ?_
  · have hlt : i < m := by simpa using hlt
    rw [wrap_nat i (by omega)]
    refine h.ix hlt fun a y hy ha => ldI_of ha (pif_of (fun he => ⟨?_, trivial⟩) fun he => ?_)
    · have he : y = x := by simpa using he
      subst he
      rw [decide_eq_true (List.mem_of_getElem? hy)]
    · have he : ¬ y = x := by simpa using he
      refine ⟨⟨i + 1, rfl, hlt, ?_, trivial⟩, by omega⟩
      rw [take_snoc hy, List.mem_append, List.mem_singleton]
      rintro (hh | hh)
      · exact hno hh
      · exact he hh.symm
  · have hge : i = m := by simp at hge; omega
    subst hge
    refine ⟨?_, trivial⟩
    rw [← hl, List.take_length] at hno
    rw [decide_eq_false hno]
/-- those from i onwards are within -/
def Left (n : Nat) (wb : List Bool) (R : List Int) (i : Nat) : Prop := ∀ u : Int, inA n wb u = true ↔ u ∈ R.drop i
theorem drop_cons {R : List Int} {i : Nat} {x : Int} (h : R[i]? = some x) : R.drop i = x :: R.drop (i + 1) := by
  have hi := (List.getElem?_eq_some_iff.1 h).1
  rw [List.drop_eq_getElem_cons hi]
  rw [List.getElem?_eq_getElem hi] at h
  injection h with h
  rw [h]
theorem take_step {wb' : List Bool} {R : List Int} {i : Nat} {x : Int} {v : Value} {w' : World} (hO : OrdL n sc wb R) (hL : Left n wb' R i) (hx : R[i]? = some x) (hP : PH n w Q sc step decay wb') (ht : Took n w Q sc step decay wb' v w') :
    v = .tuple #[I x, .bool true] ∧ Keep Q.F w w' ∧ PH n w' Q sc step decay (wb'.set (x - 1).toNat false) ∧ Left n (wb'.set (x - 1).toNat false) R (i + 1) := by
  have hw := hP.wf
  have hd := drop_cons hx
  have hin : inA n wb' x = true := (hL x).2 (by rw [hd]; simp)
  have hr := inA_rng hin
  have hs := hO.sorted.sublist (List.drop_sublist i R)
  have hn := hO.nodup.sublist (List.drop_sublist i R)
  rw [hd] at hs hn
  have hF : First n sc wb' x := ⟨hin, fun u hu => by
    have hu' := (hL u).1 hu
    rw [hd] at hu'
    rcases List.mem_cons.1 hu' with rfl | hu'
    · exact (bfw_od hw.nn hw.scl).irr hr
    · exact (List.pairwise_cons.1 hs).1 u hu'⟩
  rcases ht with ⟨hno, _, _⟩ | ⟨y, hy, hv, k, h'⟩
  · rw [hno x] at hin; cases hin
  obtain rfl := hF.unique hw hy
  refine ⟨hv, k, h', fun u => ?_⟩
  rw [inA_set hr hw.wbl]
  by_cases e : u = x
  · rw [if_pos e, e]
    constructor
    · intro hh; cases hh
    · intro hh; exact absurd hh (List.nodup_cons.1 hn).1
  · rw [if_neg e, hL u, hd, List.mem_cons]
    exact ⟨fun hh => hh.resolve_left e, Or.inr⟩
theorem put_step {wb' : List Bool} {R : List Int} {i : Nat} {x : Int} {e : Ending} {w' : World} (hO : OrdL n sc wb R) (hL : Left n wb' R (i + 1)) (hx : R[i]? = some x) (hP : PH n w Q sc step decay wb')
    (ht : (¬ (1 ≤ x ∧ x ≤ n) ∧ e = .returned (I 2) ∧ w' = w) ∨ (inA n wb' x = true ∧ e = .returned (I 50) ∧ w' = w) ∨
      ((1 ≤ x ∧ x ≤ n) ∧ inA n wb' x = false ∧ e = .returned (I 0) ∧ Keep Q.F w w' ∧ PH n w' Q sc step decay (wb'.set (x - 1).toNat true))) :
    e = .returned (I 0) ∧ Keep Q.F w w' ∧ PH n w' Q sc step decay (wb'.set (x - 1).toNat true) ∧ Left n (wb'.set (x - 1).toNat true) R i := by
  have hd := drop_cons hx
  have hr := inA_rng ((hO.mem x).1 (List.mem_of_getElem? hx))
  have hn := hO.nodup.sublist (List.drop_sublist i R)
  rw [hd] at hn
  have hno : ¬ inA n wb' x = true := fun h => (List.nodup_cons.1 hn).1 ((hL x).1 h)
  rcases ht with ⟨h, _⟩ | ⟨h, _⟩ | ⟨_, _, he, k, h'⟩
  · exact absurd hr h
  · exact absurd h hno
  refine ⟨he, k, h', fun u => ?_⟩
  rw [inA_set hr hP.wf.wbl, hd, List.mem_cons]
  by_cases e : u = x
  · rw [if_pos e]; exact ⟨fun _ => Or.inl e, fun _ => rfl⟩
  · rw [if_neg e, hL u]; exact ⟨Or.inr, fun hh => hh.resolve_left e⟩
theorem ordl_step {R : List Int} {i : Nat} {x y : Int} (hw : Wf n sc step decay wb) (hO : OrdL n sc wb R) (hx : R[i]? = some x) (hy : R[i + 1]? = some y) : bfw sc x y = true := by
  have hi := (List.getElem?_eq_some_iff.1 hx).1
  have hj := (List.getElem?_eq_some_iff.1 hy).1
  have hs := (List.pairwise_iff_getElem.1 hO.sorted) i (i + 1) hi hj (by omega)
  have hn := (List.pairwise_iff_getElem.1 (List.nodup_iff_pairwise_ne.1 hO.nodup)) i (i + 1) hi hj (by omega)
  rw [List.getElem?_eq_getElem hi] at hx
  rw [List.getElem?_eq_getElem hj] at hy
  injection hx with hx
  injection hy with hy
  rw [hx, hy] at hs hn
  cases hq : bfw sc x y with
  | true => rfl
  | false =>
    have r1 := inA_rng ((hO.mem x).1 (by rw [← hx]; exact List.getElem_mem _))
    have r2 := inA_rng ((hO.mem y).1 (by rw [← hy]; exact List.getElem_mem _))
    exact absurd (bfw_eq hw.nn hw.scl r1 r2 hq hs) hn
/-- how many of the first k are within -/
def cnt (n : Nat) (wb : List Bool) (k : Nat) : Nat := ((List.range k).filter fun i : Nat => inA n wb ((i : Int) + 1)).length
theorem cnt_succ (k : Nat) : cnt n wb (k + 1) = cnt n wb k + if inA n wb ((k : Int) + 1) = true then 1 else 0 := by
  unfold cnt
  rw [List.range_succ, List.filter_append, List.length_append]
  congr 1
  by_cases h : inA n wb ((k : Int) + 1) = true
  · rw [if_pos h, List.filter_cons_of_pos (by simpa using h)]; rfl
  · rw [if_neg h, List.filter_cons_of_neg (by simpa using h)]; rfl
theorem cnt_le (k : Nat) : cnt n wb k ≤ k := by
  unfold cnt
  have := List.length_filter_le (fun i : Nat => inA n wb ((i : Int) + 1)) (List.range k)
  simpa using this
theorem cnt_ord {R : List Int} (hO : OrdL n sc wb R) : cnt n wb n = R.length := by
  have hp : (((List.range n).filter fun i : Nat => inA n wb ((i : Int) + 1)).map fun i : Nat => (i : Int) + 1).Perm R := by
    rw [List.perm_ext_iff_of_nodup ?_ hO.nodup]
    · intro a
      rw [hO.mem]
      constructor
      · intro h
        obtain ⟨i, hi, rfl⟩ := List.mem_map.1 h
        exact (List.mem_filter.1 hi).2
      · intro h
        have hr := inA_rng h
        refine List.mem_map.2 ⟨(a - 1).toNat, List.mem_filter.2 ⟨List.mem_range.2 (by omega), ?_⟩, by omega⟩
        rw [show (((a - 1).toNat : Nat) : Int) + 1 = a by omega]
        exact h
    · rw [List.nodup_iff_pairwise_ne, List.pairwise_map]
      have := (List.nodup_iff_pairwise_ne.1 (List.nodup_range (n := n))).sublist (List.filter_sublist (p := fun i : Nat => inA n wb ((i : Int) + 1)))
      exact this.imp fun h => by omega
  have := hp.length_eq
  rw [List.length_map] at this
  exact this
end
end Go.Proofs.Ytfifgopmegbifaa.Heat
