/- Luby's number of every place: bits.Len64, pace.Luby and the reference's Luby return the same function of the place. -/
import Derived.Test.YtkpoagdhekimpaaVcO
import Derived.Test.YtkpoagdhekimpaaTLuby
import Derived.Laws.Bits64
set_option linter.unusedVariables false
set_option linter.unusedSimpArgs false
set_option maxRecDepth 100000
namespace Go.Proofs.Ytkpoagdhekimpaa.Pace
open Go Go.Proofs.Ytkpoagdhekimpaa.Vc Go.Proofs.Ytkpoagdhekimpaa.T

/-- how many binary digits -/
def blen (n : Nat) : Nat := if n = 0 then 0 else Nat.log2 n + 1
theorem blen_low {n : Nat} (h : 0 < n) : 2 ^ (blen n - 1) ≤ n := by
  unfold blen; rw [if_neg (by omega)]; exact Nat.log2_self_le (by omega)
theorem blen_high {n : Nat} (h : 0 < n) : n < 2 ^ blen n := by
  unfold blen; rw [if_neg (by omega)]; exact Nat.lt_log2_self
theorem blen_pos {n : Nat} (h : 0 < n) : 0 < blen n := by unfold blen; rw [if_neg (by omega)]; omega
theorem blen_of {n k : Nat} (h1 : 2 ^ k ≤ n) (h2 : n < 2 ^ (k + 1)) : blen n = k + 1 := by
  have hp : 0 < 2 ^ k := Nat.two_pow_pos k
  unfold blen
  rw [if_neg (by omega), (Nat.log2_eq_iff (by omega)).2 ⟨h1, h2⟩]
theorem blen_shift {n v s : Nat} (hv : 0 < v) (h1 : v * 2 ^ s ≤ n) (h2 : n < (v + 1) * 2 ^ s) : blen n = s + blen v := by
  have hb := blen_pos hv
  have hl := blen_low hv
  have hh := blen_high hv
  have e1 : s + blen v = (s + (blen v - 1)) + 1 := by omega
  rw [e1]
  apply blen_of
  · rw [Nat.pow_add, Nat.mul_comm]
    exact Nat.le_trans (Nat.mul_le_mul_right _ hl) h1
  · rw [← e1, Nat.pow_add, Nat.mul_comm (2 ^ s)]
    exact Nat.lt_of_lt_of_le h2 (Nat.mul_le_mul_right _ hh)
theorem blen_le {n k : Nat} (h : n < 2 ^ k) : blen n ≤ k := by
  rcases Nat.eq_zero_or_pos n with rfl | hp
  · simp [blen]
  · have h1 := blen_low hp
    have h2 : 2 ^ (blen n - 1) < 2 ^ k := Nat.lt_of_le_of_lt h1 h
    have := (Nat.pow_lt_pow_iff_right (by omega : 1 < 2)).1 h2
    omega

def tab : ByteArray := ⟨#[0, 1, 2, 2, 3, 3, 3, 3, 4, 4, 4, 4, 4, 4, 4, 4, 5, 5, 5, 5, 5, 5, 5, 5, 5, 5, 5, 5, 5, 5, 5, 5, 6, 6, 6, 6, 6, 6, 6, 6, 6, 6, 6, 6, 6, 6, 6, 6, 6, 6, 6, 6, 6, 6, 6, 6, 6, 6, 6, 6, 6, 6, 6, 6, 7, 7, 7, 7, 7, 7, 7, 7, 7, 7, 7, 7, 7, 7, 7, 7, 7, 7, 7, 7, 7, 7, 7, 7, 7, 7, 7, 7, 7, 7, 7, 7, 7, 7, 7, 7, 7, 7, 7, 7, 7, 7, 7, 7, 7, 7, 7, 7, 7, 7, 7, 7, 7, 7, 7, 7, 7, 7, 7, 7, 7, 7, 7, 7, 8, 8, 8, 8, 8, 8, 8, 8, 8, 8, 8, 8, 8, 8, 8, 8, 8, 8, 8, 8, 8, 8, 8, 8, 8, 8, 8, 8, 8, 8, 8, 8, 8, 8, 8, 8, 8, 8, 8, 8, 8, 8, 8, 8, 8, 8, 8, 8, 8, 8, 8, 8, 8, 8, 8, 8, 8, 8, 8, 8, 8, 8, 8, 8, 8, 8, 8, 8, 8, 8, 8, 8, 8, 8, 8, 8, 8, 8, 8, 8, 8, 8, 8, 8, 8, 8, 8, 8, 8, 8, 8, 8, 8, 8, 8, 8, 8, 8, 8, 8, 8, 8, 8, 8, 8, 8, 8, 8, 8, 8, 8, 8, 8, 8, 8, 8, 8, 8, 8, 8, 8, 8, 8, 8, 8, 8, 8, 8]⟩
theorem tab_at (v : Nat) (h : v < 256) : byteAt tab (v : Int) = (blen v : Int) := by
  have : ∀ v : Fin 256, byteAt tab ((v.val : Nat) : Int) = (blen v.val : Int) := by decide +kernel
  exact this ⟨v, h⟩
theorem fdiv_nat (n m : Nat) : Int.fdiv (n : Int) (m : Int) = ((n / m : Nat) : Int) := by
  rw [Int.fdiv_eq_ediv_of_nonneg _ (by omega)]; rfl

theorem len26_leaf {n v s : Nat} {R : Value → World → Prop} {w : World} (hv : 0 < v) (hv2 : v < 256) (h1 : v * 2 ^ s ≤ n) (h2 : n < (v + 1) * 2 ^ s) (hs : s ≤ 56) (h : R (.int .i64 (blen n : Int)) w) :
    0 ≤ (IntKind.wrap .u8 (v : Int)) ∧ (IntKind.wrap .u8 (v : Int)) < (tab.size : Int) ∧
      R (.int .i64 (IntKind.wrap .i64 ((s : Int) + (IntKind.wrap .i64 (byteAt tab (IntKind.wrap .u8 (v : Int))))))) w := by
  have hw : IntKind.wrap .u8 (v : Int) = v := by rw [IntKind.wrap_u8]; omega
  rw [hw, tab_at v hv2]
  have ht : tab.size = 256 := by decide +kernel
  have hb := blen_le (n := v) (k := 8) (by omega)
  have e1 : IntKind.wrap .i64 (blen v : Int) = blen v := by rw [IntKind.wrap_i64]; omega
  have e2 : IntKind.wrap .i64 ((s : Int) + blen v) = ((s + blen v : Nat) : Int) := by rw [IntKind.wrap_i64]; omega
  rw [e1, e2, ← blen_shift hv h1 h2]
  exact ⟨by omega, by rw [ht]; omega, h⟩

theorem len26 (n : Nat) (w : World) (h0 : 0 < n) (h1 : n < 18446744073709551616) :
    Calls Try.prog 26 #[.int .u64 (n : Int)] w fun e w' => e = .returned (.int .i64 (blen n)) ∧ w' = w := by
  refine (V26_calls n w (fun v w' => v = .int .i64 (blen n) ∧ w' = w) ?_).mono fun e w' ⟨x, he, hv, hk⟩ => ⟨by rw [he, hv], hk⟩
  unfold V26
  have p32 : (2 : Int) ^ (min (Int.toNat 32) (IntKind.bits .u64)) = ((4294967296 : Nat) : Int) := by decide +kernel
  have p16 : (2 : Int) ^ (min (Int.toNat 16) (IntKind.bits .u64)) = ((65536 : Nat) : Int) := by decide +kernel
  have p8 : (2 : Int) ^ (min (Int.toNat 8) (IntKind.bits .u64)) = ((256 : Nat) : Int) := by decide +kernel
  have w1 : IntKind.wrap .i64 (32 + 16) = 48 := by decide +kernel
  have w2 : IntKind.wrap .i64 (0 + 16) = 16 := by decide +kernel
  have w3 : IntKind.wrap .i64 (48 + 8) = 56 := by decide +kernel
  have w4 : IntKind.wrap .i64 (16 + 8) = 24 := by decide +kernel
  have w5 : IntKind.wrap .i64 (32 + 8) = 40 := by decide +kernel
  have w6 : IntKind.wrap .i64 (0 + 8) = 8 := by decide +kernel
  refine jn_of ?_
  rw [p32, fdiv_nat]
  refine pif_of (fun a1 => ?_) (fun a1 => ?_)
  · have a1 : 4294967296 ≤ n := by simp at a1; omega
    refine jn_of ?_
    rw [p16, fdiv_nat, w1]
    refine pif_of (fun a2 => ?_) (fun a2 => ?_)
    · have a2 : 65536 ≤ n / 4294967296 := by simp at a2; omega
      refine jn_of ?_
      rw [p8, fdiv_nat, w3]
      refine pif_of (fun a3 => ?_) (fun a3 => ?_)
      · have a3 : 256 ≤ n / 4294967296 / 65536 := by simp at a3; omega
        exact len26_leaf (R := fun v w' => v = .int .i64 (blen n) ∧ w' = w) (n := n) (v := n / 4294967296 / 65536 / 256) (s := 56) (by omega) (by omega) (by omega) (by omega) (by omega) ⟨rfl, rfl⟩
      · have a3 : ¬ 256 ≤ n / 4294967296 / 65536 := by simp at a3; omega
        exact len26_leaf (R := fun v w' => v = .int .i64 (blen n) ∧ w' = w) (n := n) (v := n / 4294967296 / 65536) (s := 48) (by omega) (by omega) (by omega) (by omega) (by omega) ⟨rfl, rfl⟩
    · have a2 : ¬ 65536 ≤ n / 4294967296 := by simp at a2; omega
      refine jn_of ?_
      rw [p8, fdiv_nat, w5]
      refine pif_of (fun a3 => ?_) (fun a3 => ?_)
      · have a3 : 256 ≤ n / 4294967296 := by simp at a3; omega
        exact len26_leaf (R := fun v w' => v = .int .i64 (blen n) ∧ w' = w) (n := n) (v := n / 4294967296 / 256) (s := 40) (by omega) (by omega) (by omega) (by omega) (by omega) ⟨rfl, rfl⟩
      · have a3 : ¬ 256 ≤ n / 4294967296 := by simp at a3; omega
        exact len26_leaf (R := fun v w' => v = .int .i64 (blen n) ∧ w' = w) (n := n) (v := n / 4294967296) (s := 32) (by omega) (by omega) (by omega) (by omega) (by omega) ⟨rfl, rfl⟩
  · have a1 : ¬ 4294967296 ≤ n := by simp at a1; omega
    refine jn_of ?_
    rw [p16, fdiv_nat, w2]
    refine pif_of (fun a2 => ?_) (fun a2 => ?_)
    · have a2 : 65536 ≤ n := by simp at a2; omega
      refine jn_of ?_
      rw [p8, fdiv_nat, w4]
      refine pif_of (fun a3 => ?_) (fun a3 => ?_)
      · have a3 : 256 ≤ n / 65536 := by simp at a3; omega
        exact len26_leaf (R := fun v w' => v = .int .i64 (blen n) ∧ w' = w) (n := n) (v := n / 65536 / 256) (s := 24) (by omega) (by omega) (by omega) (by omega) (by omega) ⟨rfl, rfl⟩
      · have a3 : ¬ 256 ≤ n / 65536 := by simp at a3; omega
        exact len26_leaf (R := fun v w' => v = .int .i64 (blen n) ∧ w' = w) (n := n) (v := n / 65536) (s := 16) (by omega) (by omega) (by omega) (by omega) (by omega) ⟨rfl, rfl⟩
    · have a2 : ¬ 65536 ≤ n := by simp at a2; omega
      refine jn_of ?_
      rw [p8, fdiv_nat, w6]
      refine pif_of (fun a3 => ?_) (fun a3 => ?_)
      · have a3 : 256 ≤ n := by simp at a3; omega
        exact len26_leaf (R := fun v w' => v = .int .i64 (blen n) ∧ w' = w) (n := n) (v := n / 256) (s := 8) (by omega) (by omega) (by omega) (by omega) (by omega) ⟨rfl, rfl⟩
      · have a3 : ¬ 256 ≤ n := by simp at a3; omega
        exact len26_leaf (R := fun v w' => v = .int .i64 (blen n) ∧ w' = w) (n := n) (v := n) (s := 0) (by omega) (by omega) (by omega) (by omega) (by omega) ⟨rfl, rfl⟩

/-- Luby's number of a place -/
def lub (n : Nat) : Nat :=
  if h0 : n = 0 then 0 else if h : n + 1 = 2 ^ blen n then 2 ^ (blen n - 1) else lub (n + 1 - 2 ^ (blen n - 1))
termination_by n
decreasing_by
  have h1 := blen_low (n := n) (by omega)
  have h2 := blen_high (n := n) (by omega)
  have h3 := blen_pos (n := n) (by omega)
  have : 1 < 2 ^ (blen n - 1) := by
    rcases Nat.eq_or_lt_of_le (show 1 ≤ blen n from h3) with e | e
    · rw [← e] at h2 h; simp at h2 h; omega
    · calc 1 < 2 ^ 1 := by omega
        _ ≤ 2 ^ (blen n - 1) := Nat.pow_le_pow_right (by omega) (by omega)
  omega
theorem lub_end {n : Nat} (h0 : 0 < n) (h : n + 1 = 2 ^ blen n) : lub n = 2 ^ (blen n - 1) := by
  rw [lub, dif_neg (by omega), dif_pos h]
theorem lub_on {n : Nat} (h0 : 0 < n) (h : ¬ n + 1 = 2 ^ blen n) : lub n = lub (n + 1 - 2 ^ (blen n - 1)) := by
  rw [lub, dif_neg (by omega), dif_neg h]

theorem two_pow_blen {n : Nat} (h0 : 0 < n) : 2 ^ blen n = 2 * 2 ^ (blen n - 1) := by
  have := blen_pos h0
  obtain ⟨k, hk⟩ : ∃ k, blen n = k + 1 := ⟨blen n - 1, by omega⟩
  rw [hk, Nat.add_sub_cancel, Nat.pow_succ, Nat.mul_comm]

theorem luby15 (a : Int) (w : World) (ha : a < 9223372036854775808) :
    Calls Try.prog 15 #[.int .i64 a] w fun e w' => e = .returned (.int .i64 (lub a.toNat)) ∧ w' = w := by
  refine (V15_calls a w (fun v w' => v = .int .i64 (lub a.toNat) ∧ w' = w) ?_).mono fun e w' ⟨x, he, hv, hk⟩ => ⟨by rw [he, hv], hk⟩
  unfold V15
  refine pif_of (fun h => ?_) fun h => ?_
  · have h : a < 1 := by simpa using h
    have : a.toNat = 0 := by omega
    rw [this, lub]; exact ⟨rfl, rfl⟩
  have h : 1 ≤ a := by simp at h; omega
  refine lp_of (fun s w' => w' = w ∧ ∃ m : Nat, s.1 = m ∧ 0 < m ∧ m < 9223372036854775808 ∧ lub m = lub a.toNat) (fun s _ => s.1.toNat)
    ⟨rfl, a.toNat, by simp only [IntKind.wrap_u64]; omega, by omega, by omega, rfl⟩ ?_
  rintro ⟨x, ⟨⟩⟩ w1 ⟨rfl, m, rfl, h0, h1, h2⟩
  simp only []
  refine cl_of ok26 (len26 m w1 h0 (by omega)) fun e w2 ⟨he, hw⟩ => ⟨_, he, ?_⟩
  subst hw
  have b1 := blen_low h0
  have b2 := blen_high h0
  have b3 := blen_pos h0
  have b4 := blen_le (n := m) (k := 63) (by omega)
  have b5 := two_pow_blen h0
  obtain ⟨k, hk⟩ : ∃ k, blen m = k + 1 := ⟨blen m - 1, by omega⟩
  have e1 : IntKind.wrap .i64 ((blen m : Int) - 1) = (k : Int) := by rw [IntKind.wrap_i64]; omega
  rw [e1]
  rw [hk] at b1 b2 b5 ⊢
  simp only [Nat.add_sub_cancel] at b1 b5
  have e2 : min (Int.toNat ((k + 1 : Nat) : Int)) (IntKind.bits .u64) = k + 1 := by
    show min _ 64 = _
    rw [Int.toNat_natCast]; omega
  have e3 : min (Int.toNat (k : Int)) (IntKind.bits .u64) = k := by
    show min _ 64 = _
    rw [Int.toNat_natCast]; omega
  have e3' : min (Int.toNat (k : Int)) (IntKind.bits .i64) = k := by
    show min _ 64 = _
    rw [Int.toNat_natCast]; omega
  rw [e2, e3, e3']
  have c1 : ((2 : Int) ^ (k + 1)) = ((2 ^ (k + 1) : Nat) : Int) := by norm_cast
  have c2 : ((2 : Int) ^ k) = ((2 ^ k : Nat) : Int) := by norm_cast
  rw [c1, c2]
  have b6 : 2 ^ k ≤ 2 ^ 62 := Nat.pow_le_pow_right (by omega) (by omega)
  have l1 := lub_end h0
  have l2 := lub_on h0
  rw [hk] at l1 l2
  simp only [Nat.add_sub_cancel] at l1 l2
  generalize 2 ^ (k + 1) = q at *
  generalize 2 ^ k = p at *
  subst b5
  have f1 : IntKind.wrap .u64 (1 * ((2 * p : Nat) : Int)) = ((2 * p : Nat) : Int) := by rw [IntKind.wrap_u64]; omega
  have f2 : IntKind.wrap .u64 (((2 * p : Nat) : Int) - 1) = ((2 * p : Nat) : Int) - 1 := by rw [IntKind.wrap_u64]; omega
  have f3 : IntKind.wrap .i64 (1 * (p : Int)) = (p : Int) := by rw [IntKind.wrap_i64]; omega
  have f4 : IntKind.wrap .u64 (1 * (p : Int)) = (p : Int) := by rw [IntKind.wrap_u64]; omega
  have f5 : IntKind.wrap .u64 ((p : Int) - 1) = (p : Int) - 1 := by rw [IntKind.wrap_u64]; omega
  have f6 : IntKind.wrap .u64 ((m : Int) - ((p : Int) - 1)) = ((m + 1 - p : Nat) : Int) := by rw [IntKind.wrap_u64]; omega
  rw [f1, f2, f3, f4, f5, f6]
  refine ⟨by omega, pif_of (fun ht => ?_) fun ht => ?_⟩
  · have ht : (m : Int) = ((2 * p : Nat) : Int) - 1 := by simpa using ht
    refine ⟨by omega, ?_, rfl⟩
    rw [← h2, l1 (by omega)]
  · have ht : ¬ (m : Int) = ((2 * p : Nat) : Int) - 1 := by simpa using ht
    have hp2 : 1 < p := by
      rcases Nat.lt_or_ge 1 p with h | h
      · exact h
      · exfalso; omega
    refine ⟨by omega, ⟨rfl, m + 1 - p, rfl, by omega, by omega, ?_⟩, by omega⟩
    rw [← h2, l2 (by omega)]

theorem luby16 (a : Int) (w : World) (ha : a < 9223372036854775808) :
    Calls Try.prog 16 #[.int .i64 a] w fun e w' => e = .returned (.int .i64 (lub a.toNat)) ∧ w' = w := by
  refine (V16_calls a w (fun v w' => v = .int .i64 (lub a.toNat) ∧ w' = w) ?_).mono fun e w' ⟨x, he, hv, hk⟩ => ⟨by rw [he, hv], hk⟩
  unfold V16
  refine pif_of (fun h => ?_) fun h => ?_
  · have h : a < 1 := by simpa using h
    have : a.toNat = 0 := by omega
    rw [this, lub]; exact ⟨rfl, rfl⟩
  have h : 1 ≤ a := by simp at h; omega
  refine lp_of (fun s w' => w' = w ∧ ∃ m : Nat, s.1 = m ∧ 0 < m ∧ m < 9223372036854775808 ∧ lub m = lub a.toNat) (fun s _ => s.1.toNat)
    ⟨rfl, a.toNat, by simp only []; omega, by omega, by omega, rfl⟩ ?_
  rintro ⟨x, ⟨⟩⟩ w1 ⟨rfl, m, rfl, h0, h1, h2⟩
  simp only []
  refine lp_of (fun s w' => w' = w1 ∧ ∃ j : Nat, s.1 = ((2 ^ j : Nat) : Int) ∧ 2 ^ j ≤ m) (fun s _ => (m - s.1).toNat) ⟨rfl, 0, by simp, by omega⟩ ?_
  rintro ⟨x, ⟨⟩⟩ w2 ⟨rfl, j, rfl, h3⟩
  simp only []
  have hp : 0 < 2 ^ j := Nat.two_pow_pos j
  have hs : 2 ^ (j + 1) = 2 * 2 ^ j := by rw [Nat.pow_succ, Nat.mul_comm]
  have l1 := lub_end h0
  have l2 := lub_on h0
  clear ha h
  have hj : 2 ^ j ≤ 4611686018427387904 := by
    have h5 : j < 63 := (Nat.pow_lt_pow_iff_right (by omega : 1 < 2)).1 (show 2 ^ j < 2 ^ 63 by omega)
    exact Nat.le_trans (Nat.pow_le_pow_right (by omega) (show j ≤ 62 by omega)) (by omega)
  have hb := fun h => blen_of (n := m) (k := j) h3 h
  refine pif_of (fun ht => ?_) fun ht => ?_
  · have e1 : IntKind.wrap .i64 ((m : Int) - ((2 ^ j : Nat) : Int)) = (m : Int) - ((2 ^ j : Nat) : Int) := by
      generalize 2 ^ j = p at *
      rw [IntKind.wrap_i64]; omega
    rw [e1] at ht
    have ht : ((2 ^ j : Nat) : Int) ≤ (m : Int) - ((2 ^ j : Nat) : Int) := by simpa using ht
    refine ⟨⟨by first | rfl | trivial, j + 1, ?_, by omega⟩, ?_⟩
    · rw [hs]; generalize 2 ^ j = p at *
      rw [IntKind.wrap_i64]; omega
    · generalize 2 ^ j = p at *
      simp only [IntKind.wrap_i64]; omega
  · have e1 : IntKind.wrap .i64 ((m : Int) - ((2 ^ j : Nat) : Int)) = (m : Int) - ((2 ^ j : Nat) : Int) := by
      generalize 2 ^ j = p at *
      rw [IntKind.wrap_i64]; omega
    rw [e1] at ht ⊢
    have ht : ¬ ((2 ^ j : Nat) : Int) ≤ (m : Int) - ((2 ^ j : Nat) : Int) := by simpa using ht
    rw [hb (by omega), Nat.add_sub_cancel, hs] at l1 l2
    generalize 2 ^ j = p at *
    have e2 : IntKind.wrap .i64 (IntKind.wrap .i64 ((p : Int) - 1) + (p : Int)) = 2 * p - 1 := by
      have e0 : IntKind.wrap .i64 ((p : Int) - 1) = p - 1 := by rw [IntKind.wrap_i64]; omega
      rw [e0, IntKind.wrap_i64]; omega
    have e3 : IntKind.wrap .i64 ((m : Int) - p + 1) = ((m + 1 - p : Nat) : Int) := by rw [IntKind.wrap_i64]; omega
    rw [e2, e3]
    refine pif_of (fun hq => ?_) fun hq => ?_
    · have hq : (m : Int) = 2 * p - 1 := by simpa using hq
      refine ⟨?_, by first | rfl | trivial⟩
      rw [← h2, l1 (by omega)]
    · have hq : ¬ (m : Int) = 2 * p - 1 := by simpa using hq
      refine ⟨⟨by first | rfl | trivial, m + 1 - p, rfl, by omega, by omega, ?_⟩, by omega⟩
      rw [← h2, l2 (by omega)]

theorem law4 (a : Int) (w : World) (ha : a < 9223372036854775808) : Calls Try.prog 4 #[.int .i64 a] w fun e w' => e = .returned (.bool true) ∧ RowKit.Below w.heap.size w w' := by
  refine (V4_calls a w (fun v w' => v = .bool true ∧ Keep None w w') ?_).mono fun e w' ⟨v, he, hv, hk⟩ => ⟨by rw [he, hv], hk.below0⟩
  unfold V4
  refine cl_of ok15 (luby15 a w ha) fun e w1 ⟨he, hw⟩ => ⟨_, he, ?_⟩
  subst hw
  refine cl_of ok16 (luby16 a w1 ha) fun e w2 ⟨he, hw⟩ => ⟨_, he, ?_⟩
  subst hw
  exact ⟨by simp, Keep.refl _ _⟩
end Go.Proofs.Ytkpoagdhekimpaa.Pace
