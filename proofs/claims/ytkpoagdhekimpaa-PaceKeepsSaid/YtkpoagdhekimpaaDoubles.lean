/- Luby's sequence is what doubling makes: the law's walk, and the law of the numbers. -/
import Derived.Test.YtkpoagdhekimpaaLuby
set_option linter.unusedVariables false
set_option linter.unusedSimpArgs false
set_option maxRecDepth 100000
namespace Go.Proofs.Ytkpoagdhekimpaa.Pace
open Go Go.Proofs.Ytkpoagdhekimpaa.Vc Go.Proofs.Ytkpoagdhekimpaa.T

theorem lub_pow : ∀ n : Nat, 0 < n → ∃ j, lub n = 2 ^ j ∧ j < blen n := by
  intro n
  induction n using Nat.strongRecOn with
  | ind n ih =>
    intro h0
    by_cases h : n + 1 = 2 ^ blen n
    · exact ⟨blen n - 1, lub_end h0 h, by have := blen_pos h0; omega⟩
    · rw [lub_on h0 h]
      have b1 := blen_low h0
      have b2 := blen_high h0
      have b5 := two_pow_blen h0
      have hp : 0 < 2 ^ (blen n - 1) := Nat.two_pow_pos _
      have h2 : n + 1 - 2 ^ (blen n - 1) < n := by
        rcases Nat.lt_or_ge 1 (2 ^ (blen n - 1)) with hq | hq
        · omega
        · exfalso; apply h; omega
      obtain ⟨j, e, hj⟩ := ih _ h2 (by omega)
      refine ⟨j, e, Nat.lt_of_lt_of_le hj (blen_le ?_)⟩
      omega
theorem lub_first {k : Nat} : lub (2 * (2 ^ k - 1) + 1) = 2 ^ k := by
  have hp : 0 < 2 ^ k := Nat.two_pow_pos _
  have hs : 2 ^ (k + 1) = 2 * 2 ^ k := by rw [Nat.pow_succ, Nat.mul_comm]
  have hb : blen (2 * (2 ^ k - 1) + 1) = k + 1 := blen_of (by omega) (by omega)
  rw [lub_end (by omega) (by rw [hb]; omega), hb, Nat.add_sub_cancel]
theorem lub_twice {k i : Nat} (h0 : 0 < i) (h1 : i ≤ 2 ^ k - 1) : lub (2 ^ k - 1 + i) = lub i := by
  have hp : 0 < 2 ^ k := Nat.two_pow_pos _
  have hs : 2 ^ (k + 1) = 2 * 2 ^ k := by rw [Nat.pow_succ, Nat.mul_comm]
  have hb : blen (2 ^ k - 1 + i) = k + 1 := blen_of (by omega) (by omega)
  rw [lub_on (by omega) (by rw [hb]; omega), hb, Nat.add_sub_cancel]
  congr 1
  omega
theorem and_pow (j : Nat) (h : j < 63) : bits .and .i64 ((2 ^ j : Nat) : Int) (((2 ^ j : Nat) : Int) - 1) = 0 := by
  have : ∀ j : Fin 63, bits .and .i64 ((2 ^ j.val : Nat) : Int) (((2 ^ j.val : Nat) : Int) - 1) = 0 := by decide +kernel
  exact this ⟨j, h⟩

theorem law5 (a : Int) (w : World) (ha : a < 9223372036854775808) : Calls Try.prog 5 #[.int .i64 a] w fun e w' => e = .returned (.bool true) ∧ RowKit.Below w.heap.size w w' := by
  refine (V5_calls a w (fun v w' => v = .bool true ∧ w' = w) ?_).mono fun e w' ⟨v, he, hv, hk⟩ => ⟨by rw [he, hv], by rw [hk]; exact RowKit.Below.refl _ _⟩
  unfold V5
  refine cl_of ok15 (luby15 a w ha) fun e w1 ⟨he, hw⟩ => ⟨_, he, ?_⟩
  subst hw
  refine pif_of (fun h => ?_) fun h => ?_
  · have h : a < 1 := by simpa using h
    have e0 : a.toNat = 0 := by omega
    rw [e0, show lub 0 = 0 by rw [lub]; rfl]
    refine gd_t rfl (cl_of ok15 (luby15 1 w1 (by omega)) fun e w2 ⟨he, hw⟩ => ⟨_, he, ?_⟩)
    subst hw
    have e1 : lub (Int.toNat 1) = 1 := lub_first (k := 0)
    rw [e1]
    exact ⟨rfl, rfl⟩
  have h : 1 ≤ a := by simp at h; omega
  obtain ⟨n, rfl⟩ : ∃ n : Nat, a = n := ⟨a.toNat, by omega⟩
  simp only [Int.toNat_natCast]
  have hb4 := blen_le (n := n) (k := 63) (by omega)
  obtain ⟨j, hj, hj2⟩ := lub_pow n (by omega)
  have hp : 0 < 2 ^ j := Nat.two_pow_pos j
  have hpj : 2 ^ j ≤ 2 ^ 62 := Nat.pow_le_pow_right (by omega) (by omega)
  have hand := and_pow j (by omega)
  have ew : IntKind.wrap .i64 (((2 ^ j : Nat) : Int) - 1) = ((2 ^ j : Nat) : Int) - 1 := by
    generalize 2 ^ j = p at *
    rw [IntKind.wrap_i64]; omega
  have hx : (cond (decide ((lub n : Int) < 1)) true ((bits .and .i64 (lub n : Int) (IntKind.wrap .i64 ((lub n : Int) - 1))) != 0)) = false := by
    rw [hj, ew, hand]
    have : ¬ ((2 ^ j : Nat) : Int) < 1 := by omega
    simp only [this, decide_false, cond_false]; rfl
  refine pif_f hx ?_
  refine lp_of (fun s w' => w' = w1 ∧ ∃ k : Nat, s.1 = k ∧ k ≤ 62) (fun s _ => (62 - s.1).toNat) ⟨rfl, 0, rfl, by omega⟩ ?_
  rintro ⟨x, ⟨⟩⟩ w2 ⟨rfl, k, rfl, hk⟩
  simp only [Int.toNat_natCast]
  refine pif_of (fun hlt => ?_) fun hge => ⟨by first | rfl | trivial, by first | rfl | trivial⟩
  have hlt : k < 62 := by simp at hlt; omega
  refine ⟨by omega, ?_⟩
  have e0 : IntKind.bits .i64 = 64 := rfl
  have e2 : min k (IntKind.bits .i64) = k := by rw [e0]; exact Nat.min_eq_left (Nat.le_trans (Nat.le_of_lt hlt) (by decide))
  have c1 : ((2 : Int) ^ k) = ((2 ^ k : Nat) : Int) := by rw [Int.natCast_pow]; rfl
  have b6 : 2 ^ k ≤ 2 ^ 61 := Nat.pow_le_pow_right (by omega) (by omega)
  have hq : 0 < 2 ^ k := Nat.two_pow_pos k
  have g1 : IntKind.wrap .i64 (1 * ((2 ^ k : Nat) : Int)) = ((2 ^ k : Nat) : Int) := by
    generalize 2 ^ k = p at *
    rw [IntKind.wrap_i64]; omega
  have g2 : IntKind.wrap .i64 (((2 ^ k : Nat) : Int) - 1) = ((2 ^ k - 1 : Nat) : Int) := by
    generalize 2 ^ k = p at *
    rw [IntKind.wrap_i64]; omega
  simp only [e2, c1, g1, g2]
  clear hj hpj hand ew hx hp e2 c1 g1 g2
  have f1 := lub_first (k := k)
  have f2 := fun h => lub_twice (k := k) (i := n) (by omega) h
  generalize 2 ^ k = p at *
  have g3 : IntKind.wrap .i64 (2 * ((p - 1 : Nat) : Int)) = ((2 * (p - 1) : Nat) : Int) := by rw [IntKind.wrap_i64]; omega
  have g4 : IntKind.wrap .i64 (((2 * (p - 1) : Nat) : Int) + 1) = ((2 * (p - 1) + 1 : Nat) : Int) := by rw [IntKind.wrap_i64]; omega
  have g5 : IntKind.wrap .i64 (((p - 1 : Nat) : Int) + 1) = (p : Int) := by rw [IntKind.wrap_i64]; omega
  rw [g3, g4, g5]
  have t1 : (cond ((n : Int) == ((2 * (p - 1) + 1 : Nat) : Int)) ((lub n : Int) != (p : Int)) false) = false := by
    by_cases hn : n = 2 * (p - 1) + 1
    · have : lub n = p := by rw [hn]; exact f1
      rw [this]; simp
    · have : ((n : Int) == ((2 * (p - 1) + 1 : Nat) : Int)) = false := by simp; omega
      rw [this]; rfl
  refine pif_f t1 ?_
  have t3 : IntKind.wrap .i64 ((k : Int) + 1) = ((k + 1 : Nat) : Int) := by rw [IntKind.wrap_i64]; omega
  rw [t3]
  by_cases hn : n ≤ p - 1
  · have t2 : decide ((n : Int) ≤ ((p - 1 : Nat) : Int)) = true := by simp; omega
    rw [t2]
    have g6 : IntKind.wrap .i64 (((p - 1 : Nat) : Int) + (n : Int)) = ((p - 1 + n : Nat) : Int) := by rw [IntKind.wrap_i64]; omega
    rw [g6]
    refine gd_t rfl (cl_of ok15 (luby15 _ w2 (by omega)) fun e w3 ⟨he, hw⟩ => ⟨_, he, ?_⟩)
    subst hw
    rw [Int.toNat_natCast, f2 hn]
    refine pif_f (by simp) ⟨⟨by first | rfl | trivial, k + 1, rfl, by omega⟩, by omega⟩
  · have t2 : decide ((n : Int) ≤ ((p - 1 : Nat) : Int)) = false := by simp; omega
    rw [t2]
    exact gd_f rfl (pif_f rfl ⟨⟨by first | rfl | trivial, k + 1, rfl, by omega⟩, by omega⟩)
end Go.Proofs.Ytkpoagdhekimpaa.Pace
