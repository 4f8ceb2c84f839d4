/- Watch: formed formulas. -/
import Derived.Test.YtjpblaenebodlaaWU
set_option linter.unusedVariables false
set_option linter.unusedSimpArgs false
set_option linter.unusedSectionVars false
set_option maxRecDepth 100000
namespace Go.Proofs.Ytjpblaenebodlaa.Wt
open Go Go.Proofs.Ytjpblaenebodlaa.Vc Go.Proofs.Ytjpblaenebodlaa.T
open Go.Proofs.Ytjpblaenebodlaa.Apart (RdL own_rdl wrap_nat getE own_len copy same take_snoc Sl sv New)
open Go.Proofs.Ytjpblaenebodlaa.Lits (fl fl_iff idx idx_inj idx_range Ans ans_of indexP formedP tidyP Td Srt)

theorem allFormed59 {w : World} {p : Option Addr} {n c : Nat} {cs : List Int} (hRd : RdL w p n cs) (hn : n ≤ 17592186044416) :
    Calls Try.prog 59 #[.slice p n c] w fun e w' => ∃ r : Bool, e = .returned (.bool r) ∧ (r = true ↔ ∀ x ∈ cs, fl x = true) ∧ Keep None w w' := by
  refine (V59_calls p n c w (fun v w' => ∃ r : Bool, v = .bool r ∧ (r = true ↔ ∀ x ∈ cs, fl x = true) ∧ Keep None w w') ?_).mono fun e w' ⟨v, he, r, hv, hk⟩ => ⟨r, by rw [he, hv], hk⟩
  unfold V59
  have hll := hRd.len
  refine lp_of (fun s W => ∃ i : Nat, s.1 = (i : Int) ∧ i ≤ n ∧ Keep None w W ∧ ∀ x ∈ cs.take i, fl x = true) (fun s _ => (n - s.1).toNat) ⟨0, rfl, Nat.zero_le _, Keep.refl _ _, fun x hx => by simp at hx⟩ ?_
  rintro ⟨i', ⟨⟩⟩ W ⟨i, rfl, hi, kW, hv⟩
  simp only [] at hv ⊢
  refine pif_of (fun hlt => ?_) fun hge => ?_
  · have hlt : i < n := by simpa using hlt
    rw [wrap_nat i (by omega)]
    refine (hRd.keep0 kW).ix hlt fun a x hx ha => ldI_of ha ?_
    have hxc := List.mem_of_getElem? hx
    refine cl_of ok44 (formedP x) fun e w2 ⟨he, k2⟩ => ⟨_, he, ?_⟩
    refine pif_of (fun hq => ⟨false, rfl, ⟨fun hh => (by cases hh), fun hh => by rw [hh x hxc] at hq; cases hq⟩, kW.then0 k2⟩) fun hq => ?_
    refine ⟨⟨i + 1, rfl, hlt, kW.then0 k2, fun y hy => ?_⟩, by omega⟩
    rw [take_snoc hx] at hy
    rcases List.mem_append.1 hy with hy | hy
    · exact hv y hy
    · rw [List.mem_singleton.1 hy]; simpa using hq
  · have hge : i = n := by simp at hge; omega
    subst hge
    rw [← hll, List.take_length] at hv
    exact ⟨true, rfl, ⟨fun _ => hv, fun _ => rfl⟩, kW⟩
theorem within41 {w : World} {p : Option Addr} {n c : Nat} {cs : List Int} (hRd : RdL w p n cs) (hn : n ≤ 17592186044416) {nv : Nat} (hnv : nv ≤ 1048576) :
    Calls Try.prog 41 #[.slice p n c, I nv] w fun e w' => ∃ r : Bool, e = .returned (.bool r) ∧ (r = true ↔ ∀ x ∈ cs, Wi nv x) ∧ Keep None w w' := by
  refine (V41_calls p n c nv w (fun v w' => ∃ r : Bool, v = .bool r ∧ (r = true ↔ ∀ x ∈ cs, Wi nv x) ∧ Keep None w w') ?_).mono fun e w' ⟨v, he, r, hv, hk⟩ => ⟨r, by rw [he, hv], hk⟩
  unfold V41
  have hll := hRd.len
  refine cl_of ok59 (allFormed59 hRd hn) fun e w1 ⟨r, he, hr, k1⟩ => ⟨r, he, ?_⟩
  refine pif_of (fun hq => ⟨false, rfl, ⟨fun hh => (by cases hh), fun hh => ?_⟩, k1⟩) fun hq => ?_
  · rw [hr.2 fun x hx => wi_fl hnv (hh x hx)] at hq; cases hq
  have hf := hr.1 (by simpa using hq)
  refine lp_of (fun s W => ∃ i : Nat, s.1 = (i : Int) ∧ i ≤ n ∧ Keep None w W ∧ ∀ x ∈ cs.take i, Wi nv x) (fun s _ => (n - s.1).toNat) ⟨0, rfl, Nat.zero_le _, k1, fun x hx => by simp at hx⟩ ?_
  rintro ⟨i', ⟨⟩⟩ W ⟨i, rfl, hi, kW, hv⟩
  simp only [] at hv ⊢
  refine pif_of (fun hlt => ?_) fun hge => ?_
  · have hlt : i < n := by simpa using hlt
    rw [wrap_nat i (by omega)]
    refine (hRd.keep0 kW).ix hlt fun a x hx ha => ldI_of ha ?_
    have hxc := List.mem_of_getElem? hx
    have h3 := fl_iff.1 (hf x hxc)
    refine cl_of ok45 (var45 (hf x hxc)) fun e w2 ⟨he, k2⟩ => ⟨_, he, ?_⟩
    refine pif_of (fun hq => ⟨false, rfl, ⟨fun hh => (by cases hh), fun hh => ?_⟩, kW.then0 k2⟩) fun hq => ?_
    · have hq := of_decide_eq_true hq
      have := hh x hxc
      unfold Wi at this
      omega
    · have hq := of_decide_eq_false hq
      refine ⟨⟨i + 1, rfl, hlt, kW.then0 k2, fun y hy => ?_⟩, by omega⟩
      rw [take_snoc hx] at hy
      rcases List.mem_append.1 hy with hy | hy
      · exact hv y hy
      · rw [List.mem_singleton.1 hy]
        unfold Wi
        omega
  · have hge : i = n := by simp at hge; omega
    subst hge
    rw [← hll, List.take_length] at hv
    exact ⟨true, rfl, ⟨fun _ => hv, fun _ => rfl⟩, kW⟩
end Go.Proofs.Ytjpblaenebodlaa.Wt
