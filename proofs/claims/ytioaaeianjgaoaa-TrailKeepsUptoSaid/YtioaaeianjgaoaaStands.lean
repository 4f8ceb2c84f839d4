/- TrailStands: what always holds of the row: the law's walk. -/
import Derived.Test.YtioaaeianjgaoaaFacts
set_option linter.unusedVariables false
set_option linter.unusedSimpArgs false
set_option maxRecDepth 100000
namespace Go.Proofs.Ytioaaeianjgaoaa.Trail
open Go Go.Proofs.Ytioaaeianjgaoaa.Vc Go.Proofs.Ytioaaeianjgaoaa.T

theorem Tr.wfL {n : Nat} {w : World} {T : TI} {R : List E} {L : List Int} (h : Tr n w T R L) : ∀ x ∈ Trail.lits R, (Lit.int .i64 x).wf = true := fun x hx => by
  obtain ⟨e, he, rfl⟩ := List.mem_map.1 hx
  have := own_lt (h.st.own e he)
  have := h.small
  exact wf_small (by omega)
theorem Tr.wfM {n : Nat} {w : World} {T : TI} {R : List E} {L : List Int} (h : Tr n w T R L) : ∀ x ∈ L, (Lit.int .i64 x).wf = true := fun x hx => by
  rw [← h.st.marks] at hx
  have := mem_marks hx
  have := h.small
  exact wf_small (by omega)
theorem law5 (v0 : Int) (sp : Option Addr) (m c : Nat) (ops : List (Int × Int × Int)) (w : World) (hv : i64 v0) (ho : OpD w sp m ops) :
    Calls Try.prog 5 #[I v0, .slice sp m c] w fun e w' => e = .returned (.bool true) ∧ RowKit.Below w.heap.size w w' := by
  refine (V5_calls v0 sp m c w (Yes2 w) ?_).mono fun e w' ⟨v, he, hv, hk⟩ => ⟨by rw [he, hv], hk.below0⟩
  unfold V5
  refine cl_of ok17 (begun17 hv ho) fun e w1 ⟨r, he, k1, T, hr, hF, hT⟩ => ⟨_, he.trans (congrArg Ending.returned hr), ?_⟩
  generalize (v0 % 41).toNat = n at *
  generalize (runA n ops).1 = R at *
  generalize (runA n ops).2 = L at *
  refine gd_t rfl (cl_of ok21 (live21 w1) fun e w3 ⟨he, k3⟩ => ⟨_, he, pif_f rfl ?_⟩)
  have hT3 := hT.keep0 k3
  refine cl_of ok10 hT3.lits fun e w4 ⟨v, he, hf, k4⟩ => ?_
  have hf' := hf
  obtain ⟨p, cc, hv4, _, _⟩ := hf
  refine ⟨p, _, cc, he.trans (congrArg Ending.returned hv4), ?_⟩
  have hT4 := hT3.keep0 k4
  refine cl_of ok11 hT4.marks fun e w5 ⟨v2, he, hf2, k5⟩ => ?_
  have hf2' := hf2
  obtain ⟨q, cq, hv5, _, _⟩ := hf2
  refine ⟨q, _, cq, he.trans (congrArg Ending.returned hv5), ?_⟩
  have hT5 := hT4.keep0 k5
  refine cl_of ok13 hT5.level fun e w6 ⟨he, hw⟩ => ⟨_, he, ?_⟩
  subst hw
  have hS := hT5.st
  have hsm := hT5.small
  have hX := hf'.slL hv4 hT3.wfL k5
  have hY := hf2'.slL hv5 hT4.wfM (Keep.refl _ _)
  have hK := ((k1.then0 k3).then0 k4).then0 k5
  rw [lits_len] at hX ⊢
  have hlv := hS.levs
  have hML := hS.marks
  refine pif_f (by simp; omega) ?_
  refine lp_of (fun s w7 => ∃ i : Nat, s.2.1 = i ∧ i ≤ R.length ∧ s.1 = ((marks (R.take i)).length : Int) ∧ Keep None w6 w7) (fun s _ => (R.length - s.2.1).toNat) ⟨0, rfl, Nat.zero_le _, by simp [marks], Keep.refl _ _⟩ ?_
  rintro ⟨nx, i', ⟨⟩⟩ w7 ⟨i, rfl, hi, rfl, k7⟩
  simp only []
  have h7 := hT5.keep0 k7
  have hX7 := hX.keep0 k7
  have hY7 := hY.keep0 k7
  refine pif_of (fun hlt => ?_) fun hge => ?_
  · have hlt : i < R.length := by simpa using hlt
    have heX : R[i]? = some R[i] := List.getElem?_eq_getElem hlt
    have hmem : R[i] ∈ R := List.getElem_mem hlt
    have hown := own_lt (hS.own _ hmem)
    obtain ⟨pl1, pl2⟩ := place_of hS i _ heX
    obtain ⟨mk1, mk2⟩ := mark_of hS heX
    have hent := ent_of hS hmem
    have hgl : (lits R).getD i 0 = R[i].lit := by
      unfold lits; rw [List.getD_eq_getElem?_getD, List.getElem?_map, heX]; rfl
    generalize R[i] = x at *
    refine hX7.ix (by omega) (by omega) fun a ha => ldI_of ha ?_
    rw [Int.toNat_natCast, hgl]
    have hobn : ownB n x.lit = true := hS.own _ hmem
    have hvb : ownB n (x.lit.natAbs : Int) = true := by unfold ownB; simp; omega
    have hneg : ownB n (-x.lit) = true := by unfold ownB; simp; omega
    have hrea : reaA n R (x.lit.natAbs : Int) = x.rs := by
      unfold reaA
      rw [hvb, show decide ((1 : Int) ≤ (x.lit.natAbs : Int)) = true by simp; omega, Bool.true_and, if_pos rfl, Int.natAbs_natCast, hent]
    have hlev : levA n R (x.lit.natAbs : Int) = x.lv := by
      unfold levA
      rw [hvb, show decide ((1 : Int) ≤ (x.lit.natAbs : Int)) = true by simp; omega, Bool.true_and, if_pos rfl, Int.natAbs_natCast, hent]
    have hval : valA n R x.lit = 1 := by unfold valA; rw [hobn, if_pos rfl, hent]; simp
    have hval2 : valA n R (-x.lit) = -1 := by
      unfold valA
      rw [hneg, if_pos rfl, Int.natAbs_neg, hent]
      simp only []
      rw [if_neg (by omega)]
    -- the variable
    refine ⟨fun s w8 => s.1 = (x.lit.natAbs : Int) ∧ w8 = w7, ?_, ?_⟩
    · refine pif_of (fun hn => ⟨?_, rfl⟩) fun hn => ⟨?_, rfl⟩
      · have hn : x.lit < 0 := by simpa using hn
        show IntKind.wrap .i64 (0 - x.lit) = _
        rw [IntKind.wrap_i64]; omega
      · have hn : ¬ x.lit < 0 := by simpa using hn
        show x.lit = _
        omega
    rintro ⟨v', ⟨⟩⟩ w8 ⟨rfl, rfl⟩
    simp only []
    have hml := marks_len (R.take i)
    have htl : (R.take i).length = i := by simp; omega
    -- the mark
    refine ⟨fun s w9 => s.1 = x.lv ∧ Keep None w8 w9, ?_, ?_⟩
    · have out : ∀ (b : Bool), (b = true ↔ x.rs < 0) → pif b
          (cl Try.prog 16 [.pointer (some ⟨T.t, 0, none⟩), .int .i64 (x.lit.natAbs : Int)] w8 fun e49 w12 => ∃ x48 : Int, e49 = Ending.returned (.int .i64 x48) ∧
              pif (x48 != (-1)) (Yes2 w (.bool false) w12) (IntKind.wrap .i64 (((marks (R.take i)).length : Int) + 1) = x.lv ∧ Keep None w8 w12))
          (cl Try.prog 16 [.pointer (some ⟨T.t, 0, none⟩), .int .i64 (x.lit.natAbs : Int)] w8 fun e53 w13 => ∃ x52 : Int, e53 = Ending.returned (.int .i64 x52) ∧
              pif (decide (x52 < 0)) (Yes2 w (.bool false) w13) (((marks (R.take i)).length : Int) = x.lv ∧ Keep None w8 w13)) := by
        intro b hb
        refine pif_of (fun ht => ?_) fun hf => ?_
        · have hr := hb.1 ht
          refine cl_of ok16 (h7.reason _ (by omega)) fun e w12 ⟨he, k12⟩ => ⟨_, he, pif_f ?_ ⟨?_, k12⟩⟩
          · rw [hrea]
            rcases pl2 with h | h
            · rw [h]; rfl
            · omega
          · rw [pl1, mk2, if_pos hr, List.length_append, IntKind.wrap_i64]
            simp
            omega
        · have hr : ¬ x.rs < 0 := fun h => by rw [hb.2 h] at hf; cases hf
          refine cl_of ok16 (h7.reason _ (by omega)) fun e w12 ⟨he, k12⟩ => ⟨_, he, pif_f ?_ ⟨?_, k12⟩⟩
          · rw [hrea]; simpa using hr
          · rw [pl1, mk2, if_neg hr, List.append_nil]
      by_cases hc : (marks (R.take i)).length < L.length
      · have hc' : decide (((marks (R.take i)).length : Int) < (L.length : Int)) = true := by simpa using hc
        refine gd_t hc' (hY7.ix (by omega) (by omega) fun a ha => gd_t hc' (ldI_of ha ?_))
        rw [hc', Int.toNat_natCast]
        refine out _ ⟨fun h => ?_, fun h => ?_⟩
        · have h : L.getD (marks (R.take i)).length 0 = (i : Int) := by simpa using h
          exact mk1.1 (by rw [getD_of (d := 0) hc, h])
        · have h := mk1.2 h
          rw [getD_of (d := 0) hc] at h
          injection h with h
          simpa using h
      · have hc' : decide (((marks (R.take i)).length : Int) < (L.length : Int)) = false := by simpa using hc
        refine gd_f hc' (gd_f hc' ?_)
        rw [hc']
        refine out _ ⟨(fun h => by cases h), fun h => ?_⟩
        have h := mk1.2 h
        have := (List.getElem?_eq_some_iff.1 h).1
        omega
    rintro ⟨nx', ⟨⟩⟩ w9 ⟨rfl, k9⟩
    simp only []
    have h9 := h7.keep0 k9
    refine cl_of ok14 (h9.value _ (by omega)) fun e w14 ⟨he, k14⟩ => ⟨_, he, ?_⟩
    rw [hval]
    have ewn : IntKind.wrap .i64 (0 - x.lit) = -x.lit := by rw [IntKind.wrap_i64]; omega
    rw [ewn]
    refine gd_t rfl (cl_of ok14 ((h9.keep0 k14).value _ (by omega)) fun e w16 ⟨he, k16⟩ => ⟨_, he, ?_⟩)
    rw [hval2]
    refine gd_t rfl (cl_of ok15 (((h9.keep0 k14).keep0 k16).levelOf _ (by omega)) fun e w18 ⟨he, k18⟩ => ⟨_, he, ?_⟩)
    rw [hlev]
    refine pif_f (by simp) ?_
    have k18' : Keep None w6 w18 := (((k7.then0 k9).then0 k14).then0 k16).then0 k18
    refine lp_of (fun s w19 => ∃ j : Nat, s.1 = j ∧ j ≤ i ∧ w19 = w18) (fun s _ => (i - s.1).toNat) ⟨0, rfl, Nat.zero_le _, rfl⟩ ?_
    rintro ⟨j', ⟨⟩⟩ w19 ⟨j, rfl, hj, rfl⟩
    simp only []
    have ei : IntKind.wrap .i64 ((i : Int) + 1) = ((i + 1 : Nat) : Int) := by rw [IntKind.wrap_i64]; omega
    refine pif_of (fun hlt2 => ?_) fun hge => ?_
    · have hlt2 : j < i := by simpa using hlt2
      have ej : IntKind.wrap .i64 ((j : Int) + 1) = ((j + 1 : Nat) : Int) := by rw [IntKind.wrap_i64]; omega
      rw [ej]
      have hXn := hX.keep0 k18'
      have hxj : (lits R).getD j 0 = (R[j]'(by omega)).lit := by
        unfold lits; rw [List.getD_eq_getElem?_getD, List.getElem?_map, List.getElem?_eq_getElem (by omega)]; rfl
      have hne : (R[j]'(by omega)).lit.natAbs ≠ x.lit.natAbs := fun hh => by
        have hnd := hS.nodup
        have e1 : (R.map fun e => e.lit.natAbs)[j]'(by simp; omega) = (R[j]'(by omega)).lit.natAbs := by simp
        have hxi : R[i] = x := by have := List.getElem?_eq_getElem hlt; rw [heX] at this; injection this with this; exact this.symm
        have e2 : (R.map fun e => e.lit.natAbs)[i]'(by simpa using hlt) = x.lit.natAbs := by simp [hxi]
        exact List.pairwise_iff_getElem.1 hnd j i (by simp; omega) (by simpa using hlt) hlt2 (by rw [e1, e2, hh])
      refine hXn.ix (by omega) (by omega) fun a ha => ldI_of ha ?_
      rw [Int.toNat_natCast, hxj]
      generalize (R[j]'(by omega)).lit = y at *
      have q1 : (y == x.lit) = false := by
        have : y ≠ x.lit := fun h => hne (by rw [h])
        simpa using this
      rw [q1]
      refine gd_t rfl (hXn.ix (by omega) (by omega) fun a ha => gd_t rfl (ldI_of ha ?_))
      rw [Int.toNat_natCast, hxj]
      have q2 : (y == -x.lit) = false := by
        have : y ≠ -x.lit := fun h => hne (by rw [h, Int.natAbs_neg])
        simpa using this
      refine pif_f (by rw [q2]; rfl) ⟨⟨j + 1, rfl, hlt2, rfl⟩, by omega⟩
    · rw [ei]
      refine ⟨⟨i + 1, rfl, hlt, ?_, k18'⟩, by omega⟩
      exact pl1
  · have hge : i = R.length := by simp at hge; omega
    subst hge
    rw [List.take_length, hML]
    exact ⟨by simp, hK.then0 k7⟩
end Go.Proofs.Ytioaaeianjgaoaa.Trail
