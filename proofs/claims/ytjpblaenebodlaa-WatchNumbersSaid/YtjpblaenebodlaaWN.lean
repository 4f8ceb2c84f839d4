/- Watch: tautologies; a literal's bounds. -/
import Derived.Test.YtjpblaenebodlaaWM
set_option linter.unusedVariables false
set_option linter.unusedSimpArgs false
set_option linter.unusedSectionVars false
set_option maxRecDepth 100000
namespace Go.Proofs.Ytjpblaenebodlaa.Wt
open Go Go.Proofs.Ytjpblaenebodlaa.Vc Go.Proofs.Ytjpblaenebodlaa.T
open Go.Proofs.Ytjpblaenebodlaa.Apart (RdL own_rdl wrap_nat getE own_len copy same take_snoc Sl sv New)
open Go.Proofs.Ytjpblaenebodlaa.Lits (fl fl_iff idx idx_inj idx_range Ans ans_of indexP formedP tidyP Td Srt)

def taut (c : List Int) : Prop := ∃ x ∈ c, -x ∈ c
theorem taut_adj {L : List Int} (hs : Srt L) (hf : ∀ x ∈ L, fl x = true) : (∃ i x, L[i + 1]? = some x ∧ L[i]? = some (-x)) ↔ taut L := by
  constructor
  · rintro ⟨i, x, h1, h2⟩
    exact ⟨x, List.mem_of_getElem? h1, List.mem_of_getElem? h2⟩
  · rintro ⟨x, hx, hnx⟩
    obtain ⟨y, hy0, hy, hny⟩ : ∃ y : Int, 0 < y ∧ y ∈ L ∧ -y ∈ L := by
      have h0 := (fl_iff.1 (hf x hx)).1
      by_cases hlt : x < 0
      · exact ⟨-x, by omega, hnx, by rw [Int.neg_neg]; exact hx⟩
      · exact ⟨x, by omega, hx, hnx⟩
    obtain ⟨i, hi, hie⟩ := List.mem_iff_getElem.1 hy
    obtain ⟨j, hj, hje⟩ := List.mem_iff_getElem.1 hny
    have hp := List.pairwise_iff_getElem.1 hs
    have e1 : idx (-y) = idx y + 1 := by unfold idx; split <;> split <;> omega
    have hij : j = i + 1 := by
      rcases Nat.lt_trichotomy j (i + 1) with h | h | h
      · rcases Nat.lt_or_eq_of_le (Nat.le_of_lt_succ h) with h' | h'
        · have := hp j i hj hi h'
          rw [hie, hje] at this; omega
        · subst h'
          rw [hie] at hje; omega
      · exact h
      · have h1 := hp i (i + 1) hi (by omega) (by omega)
        have h2 := hp (i + 1) j (by omega) hj h
        rw [hie] at h1; rw [hje] at h2; omega
    subst hij
    exact ⟨i, -y, (List.getElem?_eq_getElem hj).trans (by rw [hje]), (List.getElem?_eq_getElem hi).trans (by rw [hie, Int.neg_neg])⟩
theorem taut42 {w : World} {p : Option Addr} {n c : Nat} {cs : List Int} (hRd : RdL w p n cs) (hn : n ≤ 17592186044416) (hf : ∀ x ∈ cs, fl x = true) :
    Calls Try.prog 42 #[.slice p n c] w fun e w' => ∃ r : Bool, e = .returned (.bool r) ∧ (r = true ↔ taut cs) ∧ Keep None w w' := by
  refine (V42_calls p n c w (fun v w' => ∃ r : Bool, v = .bool r ∧ (r = true ↔ taut cs) ∧ Keep None w w') ?_).mono fun e w' ⟨v, he, r, hv, hk⟩ => ⟨r, by rw [he, hv], hk⟩
  unfold V42
  refine cl_of ok40 (tidyP hRd hn) fun e w1 ⟨v, L, he, hT, g, gc, hv, hO, hg, k1⟩ => ⟨_, _, _, he.trans (congrArg Ending.returned hv), ?_⟩
  have hLf : ∀ x ∈ L, fl x = true := fun x hx => ((hT.mem x).1 hx).2
  have hm : ∀ x, x ∈ L ↔ x ∈ cs := fun x => ⟨fun h => ((hT.mem x).1 h).1, fun h => (hT.mem x).2 ⟨h, hf x h⟩⟩
  have htt : taut L ↔ taut cs := by unfold taut; simp only [hm]
  have hRL := own_rdl hO
  have hLl : L.length ≤ 2097153 := by
    have h1 : (L.map fun x => (idx x).toNat).Nodup := by
      rw [List.Nodup, List.pairwise_map]
      refine (List.Pairwise.and_mem.1 hT.srt).imp ?_
      rintro a b ⟨ha, hb, hlt⟩
      have := (idx_range (hLf a ha)).1
      omega
    have := nodup_le (dom := List.range 2097153) h1 fun x hx => by
      obtain ⟨y, hy, rfl⟩ := List.mem_map.1 hx
      have := idx_range (hLf y hy)
      exact List.mem_range.2 (by omega)
    simpa using this
  refine lp_of (fun s W => ∃ i : Nat, s.1 = (i + 1 : Nat) ∧ (i = 0 ∨ i + 1 ≤ L.length) ∧ Keep None w1 W ∧ ∀ j x, j < i → L[j + 1]? = some x → L[j]? ≠ some (-x)) (fun s _ => (L.length - s.1).toNat) ⟨0, rfl, Or.inl rfl, Keep.refl _ _, fun j x hj => by omega⟩ ?_
  rintro ⟨i', ⟨⟩⟩ W ⟨i, rfl, hi, kW, hv⟩
  simp only [] at hv ⊢
  have kd : Keep None w1 W.drew := kW.drew
  refine pif_of (fun hlt => ?_) fun hge => ?_
  · have hlt : i + 1 < L.length := by have := of_decide_eq_true hlt
                                      omega
    refine (hRL.keep0 kW).ix hlt fun a x hx ha => ldI_of (by first | exact ha | simpa using ha) ?_
    have e1 : IntKind.wrap .i64 (((i + 1 : Nat) : Int) - 1) = (i : Nat) := by rw [IntKind.wrap_i64]; omega
    rw [e1]
    refine (hRL.keep0 kd).ix (by omega) fun a2 y hy ha2 => ldI_of ha2 ?_
    have hyf := fl_iff.1 (hLf y (List.mem_of_getElem? hy))
    have e2 : IntKind.wrap .i64 (0 - y) = -y := by rw [IntKind.wrap_i64]; omega
    rw [e2]
    refine pif_of (fun h => ?_) fun h => ?_
    · have h : x = -y := by simpa using h
      exact ⟨true, rfl, ⟨fun _ => htt.1 ((taut_adj hT.srt hLf).1 ⟨i, x, hx, by rw [hy, h, Int.neg_neg]⟩), fun _ => rfl⟩, k1.then0 kd⟩
    · have h : x ≠ -y := by simpa using h
      rw [wrap_nat (i + 1) (by omega)]
      refine ⟨⟨i + 1, rfl, Or.inr (by omega), kd, fun j z hj hz hh => ?_⟩, by omega⟩
      rcases Nat.lt_or_eq_of_le (Nat.le_of_lt_succ hj) with hj | rfl
      · exact hv j z hj hz hh
      · rw [hx] at hz; injection hz with hz; subst hz
        rw [hy] at hh; injection hh with hh; omega
  · have hge : ¬ i + 1 < L.length := by intro hh; have := of_decide_eq_false hge
                                        omega
    refine ⟨false, rfl, ⟨fun hh => (by cases hh), fun hh => ?_⟩, k1.then0 kW⟩
    obtain ⟨j, x, h1, h2⟩ := (taut_adj hT.srt hLf).2 (htt.2 hh)
    have hjl := (List.getElem?_eq_some_iff.1 h1).1
    exact absurd h2 (hv j x (by omega) h1)
end Go.Proofs.Ytjpblaenebodlaa.Wt
