/- The document's heat: Order and New. -/
import Derived.Test.YtfifgopmegbifaaHeatN
set_option linter.unusedVariables false
set_option linter.unusedSimpArgs false
set_option maxRecDepth 100000
namespace Go.Proofs.Ytfifgopmegbifaa.Heat
open Go Go.Proofs.Ytfifgopmegbifaa.Vc Go.Proofs.Ytfifgopmegbifaa.T
open Go.Proofs.Ytfifgopmegbifaa.Apart (RdL own_rdl wrap_nat Ls Sl sv Ag Lists getE own_len copy same apart take_snoc)

theorem info3 : (Try.prog.info? 3).map (fun i => (i.zero, i.size, i.bytes)) = some (some (I 0), 1, 8) := by kernel_rfl
theorem info4 : (Try.prog.info? 4).map (fun i => (i.zero, i.size, i.bytes)) = some (some (Value.bool false), 1, 1) := by kernel_rfl
theorem info22 : (Try.prog.info? 22).map (fun i => (i.zero, i.size, i.bytes)) = some (some (F 0), 1, 8) := by kernel_rfl
section
variable {n : Nat} {w w1 : World} {M : MI} {sc : List Nat} {step decay : Nat} {wb lb : List Bool}
/-- those that went out, and those that are left -/
structure Sel (n : Nat) (sc : List Nat) (wb lb : List Bool) (S : List Int) : Prop where
  len : lb.length = n
  left : ∀ u, inA n lb u = true ↔ (inA n wb u = true ∧ u ∉ S)
  nodup : S.Nodup
  sub : ∀ u ∈ S, inA n wb u = true
  sorted : S.Pairwise fun x y => bfw sc y x = false
  ahead : ∀ x ∈ S, ∀ u, inA n lb u = true → bfw sc u x = false
theorem Sel.add {S : List Int} (h : Sel n sc wb lb S) {x : Int} (hF : First n sc lb x) : Sel n sc wb (lb.set (x - 1).toNat false) (S ++ [x]) := by
  have hr := inA_rng hF.1
  have hx := (h.left x).1 hF.1
  refine ⟨by simpa using h.len, fun u => ?_, ?_, fun u hu => ?_, ?_, fun y hy u hu => ?_⟩
  · rw [inA_set hr h.len]
    by_cases e : u = x
    · rw [if_pos e, e]; simp
    · rw [if_neg e, h.left u]; simp [e]
  · rw [List.nodup_append]
    refine ⟨h.nodup, by simp, fun a ha b hb => ?_⟩
    simp only [List.mem_singleton] at hb
    rw [hb]
    rintro rfl
    exact hx.2 ha
  · rcases List.mem_append.1 hu with hu | hu
    · exact h.sub u hu
    · simp only [List.mem_singleton] at hu; rw [hu]; exact hx.1
  · rw [List.pairwise_append]
    refine ⟨h.sorted, by simp, fun a ha b hb => ?_⟩
    simp only [List.mem_singleton] at hb
    rw [hb]
    exact h.ahead a ha x hF.1
  · rw [inA_set hr h.len] at hu
    by_cases e : u = x
    · rw [if_pos e] at hu; cases hu
    · rw [if_neg e] at hu
      rcases List.mem_append.1 hy with hy | hy
      · exact h.ahead y hy u hu
      · simp only [List.mem_singleton] at hy; rw [hy]; exact hF.2 u hu
theorem sel_nil (h : wb.length = n) : Sel n sc wb wb [] := ⟨h, (fun u => by simp), List.nodup_nil, (fun u hu => by cases hu), List.Pairwise.nil, fun x hx => by cases hx⟩
theorem Sel.full {S : List Int} (h : Sel n sc wb lb S) (hno : none' n lb) : OrdL n sc wb S :=
  ⟨h.nodup, fun v => ⟨h.sub v, fun hv => Classical.byContradiction fun hn => by
    have := (h.left v).2 ⟨hv, hn⟩
    rw [hno v] at this; cases this⟩, h.sorted⟩
theorem Sel.bound {S : List Int} (h : Sel n sc wb lb S) : S.length ≤ n := nodup_bound n S h.nodup fun x hx => inA_rng (h.sub x hx)
theorem take_snocB {cs : List Bool} {i : Nat} (hi : i < cs.length) : cs.take (i + 1) = cs.take i ++ [cs.getD i false] := by
  rw [List.take_add_one, List.getD_eq_getElem?_getD, List.getElem?_eq_getElem hi]; rfl
def Ordr (n : Nat) (w : World) (sc : List Nat) (wb : List Bool) (v : Value) (w' : World) : Prop := ∃ (p : Option Addr) (c : Nat) (R : List Int), v = .slice p R.length c ∧ Own w' 3 1 p R.length c (R.map I) ∧ (∀ i, ob p i → w.heap.size ≤ i) ∧ Keep None w w' ∧ OrdL n sc wb R
theorem order43 (h : MR n w M sc step decay wb) (hw : Wf n sc step decay wb) :
    Calls Try.prog 43 #[.pointer (some ⟨M.h, 0, none⟩)] w fun e w' => ∃ v, e = .returned v ∧ Ordr n w sc wb v w' := by
  refine V43_calls (some ⟨M.h, 0, none⟩) w (Ordr n w sc wb) ?_
  unfold V43
  have hn := hw.small
  have hwl := hw.wbl
  refine lp_of (fun s w' => ∃ i : Nat, s.2.1 = (i : Int) ∧ i ≤ n ∧ s.1.2.1 = i ∧ Keep None w w' ∧ Own w' 4 1 s.1.1 i s.1.2.2 ((wb.take i).map Value.bool) ∧ ∀ j, ob s.1.1 j → w.heap.size ≤ j) (fun s _ => (n - s.2.1).toNat)
    ⟨0, rfl, Nat.zero_le _, rfl, Keep.refl _ _, Own.nil _ _ _, fun j ⟨a, hh, _⟩ => by cases hh⟩ ?_
  rintro ⟨⟨q, qn, qc⟩, i', ⟨⟩⟩ w1 ⟨i, rfl, hi, hqi, k1, hO1, hf1⟩
  simp only [] at hqi hO1 hf1
  subst hqi
  have h1 := h.keep0 k1
  refine nn_of ?_
  simp only [add_mk, Nat.add_zero, Nat.zero_add]
  refine ldC_of (h1.obj.cell 1) (pif_of (fun hlt => ?_) fun hge => ?_)
  · have hlt : qn < n := by simpa using hlt
    rw [wrap_nat qn (by omega)]
    refine nn_of ?_
    simp only [add_mk, Nat.add_zero, Nat.zero_add]
    refine ldC_of (h1.obj.cell 1) (own_rdB h1.within hlt fun a ha => ldB_of ha ?_)
    refine app_one (t := 73) (B := 1) Try.underlying73 info4 rfl (by omega) rfl hO1 (by omega) fun p' c' w2 hO2 k2 hob => ⟨⟨qn + 1, rfl, hlt, rfl, ?_, ?_, fun j hj => ?_⟩, by omega⟩
    · exact k1.trans k2 fun j hj hh => by have := hf1 j hh; omega
    · rw [take_snocB (by omega), List.map_append]
      exact hO2
    · have := k1.size
      rcases hob j hj with hh | hh
      · exact hf1 j hh
      · omega
  · have hge : qn = n := by simp at hge; omega
    subst hge
    have e0 : wb.take qn = wb := by rw [← hwl, List.take_length]
    rw [e0] at hO1
    refine lp_of (fun s w' => ∃ S lb, s.1.2.1 = S.length ∧ Keep None w w' ∧ Own w' 3 1 s.1.1 S.length s.1.2.2 (S.map I) ∧ (∀ j, ob s.1.1 j → w.heap.size ≤ j) ∧ (∀ j, ob s.1.1 j → ¬ ob q j) ∧ Own w' 4 1 q qn qc (lb.map Value.bool) ∧ Sel qn sc wb lb S) (fun s _ => qn - s.1.2.1)
      ⟨[], wb, rfl, k1, Own.nil _ _ _, (fun j ⟨a, hh, _⟩ => by cases hh), (fun j ⟨a, hh, _⟩ => by cases hh), hO1, sel_nil hwl⟩ ?_
    rintro ⟨⟨o, on, oc⟩, ⟨⟩⟩ w2 ⟨S, lb, hon, k2, hO2, hf2, hd2, hL2, hS⟩
    simp only [] at hon hO2 hf2 hd2 ⊢
    subst hon
    have h2 := h.keep0 k2
    refine cl_of ok50 (warm50 h2 hw hL2) fun e w3 ⟨b, he, k3, hb⟩ => ⟨b, he, ?_⟩
    have hO3 := hO2.keep0 k3
    have hL3 := hL2.keep0 k3
    have k03 := k2.then0 k3
    rcases hb with ⟨rfl, hno⟩ | hF
    · exact pif_t rfl ⟨o, oc, S, rfl, hO3, hf2, k03, hS.full hno⟩
    · have hr := inA_rng hF.1
      refine pif_f (by simp; omega) ?_
      obtain ⟨e2, hbi⟩ := idx hr hn
      rw [e2]
      refine own_set hL3 hbi rfl fun w4 hL4 k4 => ?_
      rw [← List.map_set] at hL4
      have hO4 := hO3.keep k4 fun j hj hh => hd2 j hj hh
      have k04 : Keep None w w4 := k03.trans k4 fun j hj hh => by have := hf1 j hh; omega
      have hS4 := hS.add hF
      have hb4 := hS4.bound
      rw [List.length_append, List.length_singleton] at hb4
      refine app_one (t := 33) (B := 8) Try.underlying33 info3 rfl (by omega) rfl hO4 (by omega) fun p' c' w5 hO5 k5 hob => ⟨⟨S ++ [b], lb.set (b - 1).toNat false, ?_, ?_, ?_, fun j hj => ?_, fun j hj hh => ?_, ?_, hS4⟩, ?_⟩
      · simp
      · exact k04.trans k5 fun j hj hh => by have := hf2 j hh; omega
      · rw [List.map_append, List.length_append]; exact hO5
      · have := k04.size
        rcases hob j hj with hh | hh
        · exact hf2 j hh
        · omega
      · rcases hob j hj with h5 | h5
        · exact hd2 j h5 hh
        · have := hL4.lt j hh; omega
      · exact hL4.keep k5 fun j hj hh => hd2 j hh hj
      · show qn - (S.length + 1) < qn - S.length
        omega
def New20 (n : Int) (d : Nat) (w : World) (v : Value) (w' : World) : Prop :=
  (fine n d = false ∧ v = .tuple #[.pointer none, I 2] ∧ Keep None w w') ∨
  (fine n d = true ∧ ∃ M : MI, v = .tuple #[.pointer (some ⟨M.h, 0, none⟩), I 0] ∧ Keep None w w' ∧ (∀ i, M.F i → w.heap.size ≤ i) ∧ MR n.toNat w' M (List.replicate n.toNat 0) one d (List.replicate n.toNat true))
theorem new20 (n : Int) (d : Nat) (w : World) : Calls Try.prog 20 #[I n, F d] w fun e w' => ∃ v, e = .returned v ∧ New20 n d w v w' := by
  refine V20_calls n d w (New20 n d w) ?_
  unfold V20
  have hf : (cond (cond (decide (n < 0)) true (decide (n > 1048576))) true (!(cond ((FloatKind.format .f64).order d 4602678819172646912 == some .gt || (FloatKind.format .f64).order d 4602678819172646912 == some .eq) ((FloatKind.format .f64).order d 4607182418800017408 == some .lt || (FloatKind.format .f64).order d 4607182418800017408 == some .eq) false))) = !fine n d := by
    unfold fine
    by_cases h1 : n < 0
    · have : ¬ 0 ≤ n := by omega
      simp [h1, this]
    · by_cases h2 : n > 1048576
      · have : ¬ n ≤ 1048576 := by omega
        simp [h1, h2, this]
      · have e1 : 0 ≤ n := by omega
        have e2 : n ≤ 1048576 := by omega
        simp [h1, h2, e1, e2]
  rw [hf]
  refine pif_of (fun h => Or.inl ⟨by simpa using h, rfl, Keep.refl _ _⟩) fun h => ?_
  have hfine : fine n d = true := by simpa using h
  obtain ⟨n0, n1, _⟩ := fine_dec hfine
  obtain ⟨m, rfl⟩ : ∃ m : Nat, n = m := ⟨n.toNat, by omega⟩
  refine alc_at fun b w1 hb hB k1 => ?_
  simp only [add_mk, Nat.add_zero, Nat.zero_add]
  refine st_of hB (by simp) rfl fun w2 hB2 k2 _ => ?_
  refine st_of hB2 (by simp) rfl fun w3 hB3 k3 _ => ?_
  refine st_of hB3 (by simp) rfl fun w4 hB4 k4 _ => ?_
  refine st_of hB4 (by simp) rfl fun w5 hB5 k5 _ => ?_
  have k05 : Keep None w w5 := (((k1.then1 k2 (by omega)).then1 k3 (by omega)).then1 k4 (by omega)).then1 k5 (by omega)
  simp only [List.set_cons_zero, List.set_cons_succ] at hB5
  refine lp_of (fun s w' => ∃ (i : Nat) (M : MI), s.1 = (i : Int) ∧ i ≤ m ∧ M.h = b ∧ Keep None w w' ∧ (∀ j, M.F j → w.heap.size ≤ j) ∧ MR i w' M (List.replicate i 0) one d (List.replicate i true)) (fun s _ => (m - s.1).toNat)
    ⟨0, ⟨b, none, 0, none, 0⟩, rfl, Nat.zero_le _, rfl, k05, fun j hj => ?_, hB5, Own.nil _ _ _, Own.nil _ _ _, (fun ⟨a, hh, _⟩ => by cases hh), (fun ⟨a, hh, _⟩ => by cases hh), fun j ⟨a, hh, _⟩ => by cases hh⟩ ?_
  · rcases hj with rfl | ⟨a, hh, _⟩ | ⟨a, hh, _⟩
    · exact Nat.le_of_eq hb.symm
    · cases hh
    · cases hh
  rintro ⟨i', ⟨⟩⟩ w6 ⟨i, M, rfl, hi, rfl, k6, hF6, h6⟩
  simp only []
  refine pif_of (fun hlt => ?_) fun hge => ?_
  · have hlt : i < m := by simpa using hlt
    rw [wrap_nat i (by omega)]
    have fin := h6.lt
    refine ldC_of (h6.obj.cell 0) ?_
    refine app_one (t := 64) (B := 8) Try.underlying64 info22 rfl (by omega) rfl h6.scores (by omega) fun p' c' w8 hO8 k8 hob8 => ?_
    have z8 := k8.size
    have hB8 := h6.obj.keep k8 h6.d1
    have hW8 := h6.within.keep k8 fun j hj hh => h6.d3 j hh hj
    have k08 : Keep None w w8 := k6.trans k8 fun j hj hh => by have := hF6 j (Or.inr (Or.inl hh)); omega
    have n8 : ¬ ob p' M.h := fun hh => by
      rcases hob8 _ hh with h | h
      · exact h6.d1 h
      · have := fin M.h (Or.inl rfl); omega
    have f8 : ∀ j, ob p' j → w.heap.size ≤ j := fun j hj => by
      rcases hob8 j hj with h | h
      · exact hF6 j (Or.inr (Or.inl h))
      · have := k6.size; omega
    have g8 : ∀ j, ob p' j → ¬ ob M.wp j := fun j hj hh => by
      rcases hob8 j hj with h | h
      · exact h6.d3 j h hh
      · have := fin j (Or.inr (Or.inr hh)); omega
    refine st_of hB8 (by simp) rfl fun w9 hB9 k9 _ => ?_
    have hO9 := hO8.keep k9 fun j hj hh => n8 (by rw [show j = M.h from hh] at hj; exact hj)
    have hW9 := hW8.keep k9 fun j hj hh => h6.d2 (by rw [show j = M.h from hh] at hj; exact hj)
    have k09 : Keep None w w9 := k08.trans k9 fun j hj hh => by have := hF6 j (Or.inl hh); omega
    have z9 := k9.size
    refine ldC_of (hB9.cell 1) ?_
    refine app_one (t := 73) (B := 1) Try.underlying73 info4 rfl (by omega) rfl hW9 (by omega) fun q' d' w11 hW11 k11 hob11 => ?_
    have hB11 := hB9.keep k11 h6.d2
    have hO11 := hO9.keep k11 g8
    have k011 : Keep None w w11 := k09.trans k11 fun j hj hh => by have := hF6 j (Or.inr (Or.inr hh)); omega
    have n11 : ¬ ob q' M.h := fun hh => by
      rcases hob11 _ hh with h | h
      · exact h6.d2 h
      · have := fin M.h (Or.inl rfl); omega
    have f11 : ∀ j, ob q' j → w.heap.size ≤ j := fun j hj => by
      rcases hob11 j hj with h | h
      · exact hF6 j (Or.inr (Or.inr h))
      · have := k09.size; omega
    have g11 : ∀ j, ob p' j → ¬ ob q' j := fun j hj hh => by
      rcases hob11 j hh with h | h
      · exact g8 j hj h
      · have := hO9.lt j hj; omega
    refine st_of hB11 (by simp) rfl fun w12 hB12 k12 _ => ?_
    have hO12 := hO11.keep k12 fun j hj hh => n8 (by rw [show j = M.h from hh] at hj; exact hj)
    have hW12 := hW11.keep k12 fun j hj hh => n11 (by rw [show j = M.h from hh] at hj; exact hj)
    refine ⟨⟨i + 1, ⟨M.h, p', c', q', d'⟩, rfl, hlt, rfl, k011.trans k12 fun j hj hh => by have := hF6 j (Or.inl hh); omega, fun j hj => ?_, ?_, ?_, ?_, n8, n11, g11⟩, by omega⟩
    · rcases hj with rfl | hj | hj
      · exact hF6 _ (Or.inl rfl)
      · exact f8 j hj
      · exact f11 j hj
    · simpa using hB12
    · rw [List.replicate_succ', List.map_append]; exact hO12
    · rw [List.replicate_succ', List.map_append]; exact hW12
  · have hge : i = m := by simp at hge; omega
    subst hge
    exact Or.inr ⟨hfine, M, rfl, k6, hF6, by rw [Int.toNat_natCast]; exact h6⟩
end
end Go.Proofs.Ytfifgopmegbifaa.Heat
