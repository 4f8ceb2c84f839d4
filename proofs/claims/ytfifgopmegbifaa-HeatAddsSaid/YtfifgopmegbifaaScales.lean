/- HeatScales: when a heat is scaled, and by what: the law's walk. -/
import Derived.Test.YtfifgopmegbifaaBump
set_option linter.unusedVariables false
set_option linter.unusedSimpArgs false
set_option maxRecDepth 100000
namespace Go.Proofs.Ytfifgopmegbifaa.Heat
open Go Go.Proofs.Ytfifgopmegbifaa.Vc Go.Proofs.Ytfifgopmegbifaa.T

def half : Nat := 4602678819172646912
def dbl : Nat := 4611686018427387904
abbrev f64 := FloatKind.format .f64
/-- what the law asks of the step and the score at each turn -/
def good (p q : Nat) : Bool := decide (f64.add 0 p = some p) && !over p && (f64.order p p == some .eq) && (f64.order q q == some .eq)
def turn (i : Nat) (x : Nat × Nat) : Option (Nat × Nat) :=
  match f64.div x.1 half, f64.mul x.1 dbl with
  | some y, some z =>
    match decide (y = z) && (over y == decide (i = 332)) with
    | false => none
    | true =>
      match decide (i = 332) with
      | false => cond (good y x.2) (some (y, x.2)) none
      | true => match f64.mul y small, f64.mul x.2 small with
        | some p, some q => cond (good p q) (some (p, q)) none
        | _, _ => none
  | _, _ => none
def sim : Nat → Option (Nat × Nat)
  | 0 => some (one, one)
  | i + 1 => match sim i with | some x => turn i x | none => none
theorem sim_all : (sim 664).isSome = true := by decide +kernel
theorem sim_some : ∀ (k i : Nat), i + k = 664 → ∃ x, sim i = some x := by
  intro k
  induction k with
  | zero => intro i h; obtain rfl : i = 664 := by omega
            exact Option.isSome_iff_exists.1 sim_all
  | succ k ih =>
    intro i h
    obtain ⟨x, hx⟩ := ih (i + 1) (by omega)
    rw [sim] at hx
    cases hs : sim i with
    | none => rw [hs] at hx; cases hx
    | some y => exact ⟨y, rfl⟩
theorem sim_step {i : Nat} (h : i < 664) {p q : Nat} (hs : sim i = some (p, q)) :
    ∃ y, f64.div p half = some y ∧ f64.mul p dbl = some y ∧ over y = decide (i = 332) ∧
      ((i ≠ 332 ∧ sim (i + 1) = some (y, q)) ∨ (i = 332 ∧ ∃ p' q', f64.mul y small = some p' ∧ f64.mul q small = some q' ∧ sim (i + 1) = some (p', q'))) := by
  obtain ⟨x, hx⟩ := sim_some (664 - (i + 1)) (i + 1) (by omega)
  have hx' := hx
  rw [sim, hs] at hx
  simp only [turn] at hx
  cases hd : f64.div p half with
  | none => rw [hd] at hx; cases hx
  | some y =>
    cases hm : f64.mul p dbl with
    | none => rw [hd, hm] at hx; cases hx
    | some z =>
      rw [hd, hm] at hx
      simp only [] at hx
      split at hx
      · cases hx
      · rename_i hc
        rw [Bool.and_eq_true, decide_eq_true_eq, beq_iff_eq] at hc
        obtain ⟨rfl, ho⟩ := hc
        refine ⟨y, rfl, rfl, ho, ?_⟩
        split at hx
        · rename_i hi
          have hi : i ≠ 332 := by simpa using hi
          refine Or.inl ⟨hi, ?_⟩
          cases hg : good y q with
          | false => rw [hg] at hx; cases hx
          | true => rw [hg] at hx; rw [hx', ← hx]; rfl
        · rename_i hi
          have hi : i = 332 := by simpa using hi
          refine Or.inr ⟨hi, ?_⟩
          split at hx
          · rename_i p' q' e1 e2
            refine ⟨p', q', e1, e2, ?_⟩
            cases hg : good p' q' with
            | false => rw [hg] at hx; cases hx
            | true => rw [hg] at hx; rw [hx', ← hx]; rfl
          · cases hx
theorem sim_good : ∀ {i : Nat} {p q : Nat}, i ≤ 664 → sim i = some (p, q) → good p q = true := by
  intro i p q hi hs
  cases i with
  | zero =>
    rw [sim] at hs
    injection hs with hs
    injection hs with h1 h2
    subst h1 h2
    decide +kernel
  | succ i =>
    rw [sim] at hs
    cases h0 : sim i with
    | none => rw [h0] at hs; cases hs
    | some x =>
      rw [h0] at hs
      simp only [turn] at hs
      split at hs
      · split at hs
        · cases hs
        · split at hs
          · cases hg : good _ x.2 with
            | false => rw [hg] at hs; cases hs
            | true =>
              rw [hg] at hs
              simp only [cond_true, Option.some.injEq, Prod.mk.injEq] at hs
              obtain ⟨rfl, rfl⟩ := hs
              exact hg
          · split at hs
            · rename_i p' q' e1 e2
              cases hg : good p' q' with
              | false => rw [hg] at hs; cases hs
              | true =>
                rw [hg] at hs
                simp only [cond_true, Option.some.injEq, Prod.mk.injEq] at hs
                obtain ⟨rfl, rfl⟩ := hs
                exact hg
            · cases hs
      · cases hs

theorem law4 (n : Int) (w : World) (hn : -9223372036854775808 ≤ n ∧ n ≤ 9223372036854775807) :
    Calls Try.prog 4 #[I n] w fun e w' => e = .returned (.bool true) ∧ RowKit.Below w.heap.size w w' := by
  refine (V4_calls n w (fun v w' => v = .bool true ∧ Keep None w w') ?_).mono fun e w' ⟨v, he, hv, hk⟩ => ⟨by rw [he, hv], hk.below0⟩
  unfold V4
  refine cl_of ok12 (pick12 n 665 w hn (by omega)) fun e w1 ⟨he, hw⟩ => ⟨_, he, ?_⟩
  subst hw
  have m1 := Int.emod_nonneg n (show (665 : Int) ≠ 0 by omega)
  have m2 := Int.emod_lt_of_pos n (show (0 : Int) < 665 by omega)
  generalize n % 665 = k at *
  refine cl_of ok9 (new9 2 half w1 (by omega)) fun e w2 ⟨v, he, hk1, hv⟩ => ?_
  rcases hv with ⟨hf, _⟩ | ⟨_, h, sb, ib, pb, g1, g2, g3, g4, rfl, hR⟩
  · exact absurd hf (by decide +kernel)
  refine ⟨_, _, he, ?_⟩
  have hR0 : Rep w2 h sb ib pb [0, 0] one half [1, 2] [] [0, 1] := hR
  have hF0 : FC [0, 0].length [1, 2] [0, 1] := by
    refine ⟨rfl, ?_, ?_⟩
    · intro i y hy
      match i with
      | 0 => injection hy with hy; subst hy; exact ⟨by omega, by decide, rfl⟩
      | 1 => injection hy with hy; subst hy; exact ⟨by omega, by decide, rfl⟩
      | i + 2 => cases hy
    · intro v v1 v2 hv
      have v2 : v ≤ 2 := v2
      rcases (by omega : v = 1 ∨ v = 2) with rfl | rfl
      · exact absurd rfl (hv 0)
      · exact absurd rfl (hv 1)
  refine gd_t rfl (cl_of ok13 (bump13 (y := one) (sc2 := [one, 0]) (step2 := one) hR0 (by decide) (by decide) hF0 (v := 1) (by omega) (by decide) (by decide +kernel) (fun _ => ⟨rfl, rfl, rfl⟩) (fun h => absurd h (by decide +kernel))) fun e w3 ⟨he, k3, pl3, hR3, hF3⟩ => ⟨_, he, ?_⟩)
  refine pif_f rfl ?_
  have hFr : ∀ i, HF h sb ib pb i → w1.heap.size ≤ i := fun i hi => by rcases hi with rfl | rfl | rfl | rfl <;> assumption
  have thenH : ∀ {wa wb : World}, Keep None w1 wa → Keep (HF h sb ib pb) wa wb → Keep None w1 wb := fun h1 h2 => h1.trans h2 fun i hi hh => by have := hFr i hh; omega
  have hK3 := thenH hk1 k3
  refine lp_of (fun s w4 => ∃ (i : Nat) (p q : Nat) (it pl : List Int), s.2.2.1 = i ∧ s.2.1 = p ∧ s.1 = q ∧ i ≤ k.toNat ∧ sim i = some (p, q) ∧ it.length = 2 ∧ Keep None w1 w4 ∧ Rep w4 h sb ib pb [q, 0] p half it [] pl ∧ FC 2 it pl)
    (fun s _ => (k - s.2.2.1).toNat) ⟨0, one, one, _, pl3, rfl, rfl, rfl, Nat.zero_le _, rfl, bumped_len _ _ _ _, hK3, hR3, hF3⟩ ?_
  rintro ⟨q', p', i', ⟨⟩⟩ w4 ⟨i, p, q, it, pl, rfl, rfl, rfl, hi, hsim, hit, hK4, hR4, hF4⟩
  simp only []
  refine pif_of (fun hlt => ?_) fun hge => ?_
  · have hlt : i < k.toNat := by simp at hlt; omega
    obtain ⟨y, y1, y2, ho, hnext⟩ := sim_step (by omega) hsim
    have ew : IntKind.wrap .i64 ((i : Int) + 1) = ((i + 1 : Nat) : Int) := by rw [IntKind.wrap_i64]; omega
    rw [ew]
    refine jn_of ?_
    rcases hnext with ⟨hi3, hs'⟩ | ⟨hi3, p2, q2, z1, z2, hs'⟩
    · have ho' : over y = false := by rw [ho]; simp [hi3]
      refine cl_of ok14 (cool14 (sc2 := [q', 0]) (step2 := y) (it2 := it) hR4 (by simp) (by omega) hF4 y1 (fun _ => ⟨rfl, rfl, rfl⟩) (fun h => by rw [ho'] at h; cases h)) fun e w5 ⟨he, k5, pl5, hR5, hF5⟩ => ⟨he, y, y2, ?_⟩
      refine pif_f (by simp; omega) ?_
      exact ⟨⟨i + 1, y, q', it, pl5, rfl, rfl, rfl, by omega, hs', hit, thenH hK4 k5, hR5, hF5⟩, by omega⟩
    · have ho' : over y = true := by rw [ho]; simp [hi3]
      have z0 : f64.mul 0 small = some 0 := by decide +kernel
      refine cl_of ok14 (cool14 (sc2 := [q2, 0]) (step2 := p2) hR4 (by simp) (by omega) hF4 y1 (fun h => by rw [ho'] at h; cases h) (fun _ => ⟨⟨z2, z0, trivial⟩, z1, rfl⟩)) fun e w5 ⟨he, k5, pl5, hR5, hF5⟩ => ⟨he, y, y2, ?_⟩
      refine pif_t (by simp; omega) ?_
      refine ⟨p2, z1, q2, z2, ?_⟩
      exact ⟨⟨i + 1, p2, q2, _, pl5, rfl, rfl, rfl, by omega, hs', by rw [againL_len]; exact hit, thenH hK4 k5, hR5, hF5⟩, by omega⟩
  · have hik : i = k.toNat := by simp at hge; omega
    have hg := sim_good (by omega) hsim
    simp only [good, Bool.and_eq_true, decide_eq_true_eq, Bool.not_eq_true'] at hg
    obtain ⟨⟨⟨a1, a2⟩, a3⟩, a4⟩ := hg
    refine cl_of ok13 (bump13 (y := p') (sc2 := [q', p']) (step2 := p') hR4 (by simp) (by omega) hF4 (v := 2) (by omega) (by simp) a1 (fun _ => ⟨rfl, rfl, rfl⟩) (fun h => by rw [a2] at h; cases h)) fun e w5 ⟨he, k5, pl5, hR5, hF5⟩ => ⟨_, he, ?_⟩
    refine pif_f rfl ?_
    refine cl_of ok11 (score11 hR5 1 (by simp)) fun e w6 ⟨hw, he⟩ => ?_
    subst hw
    rw [if_pos ⟨by omega, by simp⟩] at he
    refine ⟨_, _, he, ?_⟩
    refine cl_of ok11 (score11 hR5 2 (by simp)) fun e w7 ⟨hw, he⟩ => ?_
    subst hw
    rw [if_pos ⟨by omega, by simp⟩] at he
    refine ⟨_, _, he, ?_⟩
    have b1 : ([q', p'] : List Nat).getD ((1 : Int) - 1).toNat 0 = q' := rfl
    have b2 : ([q', p'] : List Nat).getD ((2 : Int) - 1).toNat 0 = p' := rfl
    rw [b1, b2, a3, a4]
    exact ⟨rfl, thenH hK4 k5⟩
end Go.Proofs.Ytfifgopmegbifaa.Heat
