/- Floats of 64 bits that are not below nought: sums, products and quotients are numbers; they lie as their words lie; a sum is not below its parts. -/
import Derived.Test.YtfifgopmegbifaaVcU
set_option linter.unusedVariables false
set_option linter.unusedSimpArgs false
set_option maxRecDepth 100000
namespace Go.Proofs.Ytfifgopmegbifaa.Fl
open Go Go.Proofs.Ytfifgopmegbifaa.Vc Ieee

abbrev d64 : Format := FloatKind.format .f64
def Bn : Nat := 4503599627370496
def Inf : Nat := 9218868437227405312
theorem binade_eq : d64.binade = Bn := by decide +kernel
theorem inf_eq : d64.infRung = Inf := by decide +kernel
theorem sw_eq : d64.signWeight = 9223372036854775808 := by decide +kernel
theorem least_eq : d64.leastPlace = -1074 := by decide +kernel
theorem fb_eq : d64.fractionBits = 52 := rfl
theorem bn_pow : Bn = 2 ^ 52 := by decide +kernel
def mg (x : Nat) : Nat := if x < Bn then x else Bn + x % Bn
def sh (x : Nat) : Nat := if x < Bn then 0 else x / Bn - 1
def V (x : Nat) : Nat := mg x * 2 ^ sh x
theorem read_lt {x : Nat} (h : x < Inf) : d64.read x = .number false (mg x) (-1074 + (sh x : Int)) := by
  unfold Format.read
  rw [sw_eq, binade_eq, inf_eq, least_eq]
  have e1 : x / 9223372036854775808 % 2 = 0 := by unfold Inf at h; omega
  have e2 : x % 9223372036854775808 = x := by unfold Inf at h; omega
  simp only [e1, e2]
  unfold mg sh
  by_cases hb : x < Bn
  · rw [if_pos hb, if_pos hb, if_pos hb]; rfl
  · rw [if_neg hb, if_neg hb, if_neg hb, if_pos h]; rfl
theorem read_inf : d64.read Inf = .infinity false := by decide +kernel
theorem mg_lt (x : Nat) : mg x < 2 * Bn := by
  unfold mg; split
  · omega
  · have : x % Bn < Bn := Nat.mod_lt _ (by decide); omega
theorem V_lt {x y : Nat} (h : x < y) : V x < V y := by
  unfold V mg sh
  have hB : 0 < Bn := by decide
  by_cases hx : x < Bn
  · rw [if_pos hx, if_pos hx, Nat.pow_zero, Nat.mul_one]
    by_cases hy : y < Bn
    · rw [if_pos hy, if_pos hy, Nat.pow_zero, Nat.mul_one]; exact h
    · rw [if_neg hy, if_neg hy]
      have hp : 0 < 2 ^ (y / Bn - 1) := Nat.two_pow_pos _
      have : (Bn + y % Bn) * 1 ≤ (Bn + y % Bn) * 2 ^ (y / Bn - 1) := Nat.mul_le_mul_left _ hp
      omega
  · have hy : ¬ y < Bn := by omega
    rw [if_neg hx, if_neg hx, if_neg hy, if_neg hy]
    have rx : x % Bn < Bn := Nat.mod_lt _ hB
    have ry : y % Bn < Bn := Nat.mod_lt _ hB
    have dx := Nat.div_add_mod x Bn
    have dy := Nat.div_add_mod y Bn
    have qx : 1 ≤ x / Bn := (Nat.le_div_iff_mul_le hB).2 (by omega)
    have hq : x / Bn ≤ y / Bn := Nat.div_le_div_right (Nat.le_of_lt h)
    generalize x / Bn = a at *
    generalize y / Bn = b at *
    generalize x % Bn = r at *
    generalize y % Bn = s at *
    rcases Nat.lt_or_ge a b with hab | hab
    · have e1 : (Bn + r) * 2 ^ (a - 1) < (2 * Bn) * 2 ^ (a - 1) := Nat.mul_lt_mul_of_pos_right (by omega) (Nat.two_pow_pos _)
      have e2 : (2 * Bn) * 2 ^ (a - 1) = Bn * 2 ^ a := by
        have : 2 ^ a = 2 * 2 ^ (a - 1) := by rw [← Nat.pow_succ']; congr 1; omega
        rw [this, Nat.mul_comm 2 Bn, Nat.mul_assoc]
      have e3 : Bn * 2 ^ a ≤ Bn * 2 ^ (b - 1) := Nat.mul_le_mul_left _ (Nat.pow_le_pow_right (by omega) (by omega))
      have e4 : Bn * 2 ^ (b - 1) ≤ (Bn + s) * 2 ^ (b - 1) := Nat.mul_le_mul_right _ (by omega)
      omega
    · obtain rfl : a = b := by omega
      have hrs : r < s := by
        have : Bn * a + r < Bn * a + s := by omega
        omega
      exact Nat.mul_lt_mul_of_pos_right (by omega) (Nat.two_pow_pos _)
theorem V_le {x y : Nat} (h : x ≤ y) : V x ≤ V y := by
  rcases Nat.lt_or_ge x y with h1 | h1
  · exact Nat.le_of_lt (V_lt h1)
  · rw [show x = y by omega]; exact Nat.le_refl _

theorem cmp_nat {x y : Nat} {a b : Int} (h1 : a < b ↔ x < y) (h2 : b < a ↔ y < x) : compare a b = compare x y := by
  rcases Nat.lt_trichotomy x y with h | h | h
  · rw [Int.compare_eq_lt.2 (h1.2 h), Nat.compare_eq_lt.2 h]
  · subst h
    have : a = b := by
      have n1 : ¬ a < b := fun hh => absurd (h1.1 hh) (by omega)
      have n2 : ¬ b < a := fun hh => absurd (h2.1 hh) (by omega)
      omega
    rw [Int.compare_eq_eq.2 this, Nat.compare_eq_eq.2 rfl]
  · rw [Int.compare_eq_gt.2 (h2.2 h), Nat.compare_eq_gt.2 h]
theorem shl_V {x b : Nat} (hb : b ≤ sh x) : (mg x <<< (sh x - b)) * 2 ^ b = V x := by
  rw [Nat.shiftLeft_eq, Nat.mul_assoc, ← Nat.pow_add, Nat.sub_add_cancel hb]; rfl
theorem ord {x y : Nat} (hx : x ≤ Inf) (hy : y ≤ Inf) : d64.order x y = some (compare x y) := by
  unfold Format.order
  rcases Nat.lt_or_ge x Inf with hx1 | hx1
  · rw [read_lt hx1]
    rcases Nat.lt_or_ge y Inf with hy1 | hy1
    · rw [read_lt hy1]
      simp only [Datum.order, signed, Bool.false_eq_true, if_false]
      congr 1
      have e : min (-1074 + (sh x : Int)) (-1074 + (sh y : Int)) = -1074 + ((min (sh x) (sh y) : Nat) : Int) := by omega
      rw [e]
      have ex : ((-1074 + (sh x : Int)) - (-1074 + ((min (sh x) (sh y) : Nat) : Int))).toNat = sh x - min (sh x) (sh y) := by omega
      have ey : ((-1074 + (sh y : Int)) - (-1074 + ((min (sh x) (sh y) : Nat) : Int))).toNat = sh y - min (sh x) (sh y) := by omega
      rw [ex, ey]
      have vx := shl_V (x := x) (b := min (sh x) (sh y)) (Nat.min_le_left _ _)
      have vy := shl_V (x := y) (b := min (sh x) (sh y)) (Nat.min_le_right _ _)
      have hp : 0 < 2 ^ min (sh x) (sh y) := Nat.two_pow_pos _
      generalize mg x <<< (sh x - min (sh x) (sh y)) = p at *
      generalize mg y <<< (sh y - min (sh x) (sh y)) = q at *
      generalize 2 ^ min (sh x) (sh y) = k at *
      have key : ∀ {p q x y : Nat}, p * k = V x → q * k = V y → (p < q ↔ x < y) := fun {p q x y} h1 h2 => by
        constructor
        · intro h
          apply Classical.byContradiction
          intro hn
          have := V_le (x := y) (y := x) (by omega)
          rw [← h1, ← h2] at this
          have := Nat.mul_lt_mul_of_pos_right h hp
          omega
        · intro h
          have := V_lt h
          rw [← h1, ← h2] at this
          exact Nat.lt_of_mul_lt_mul_right this
      exact cmp_nat (by rw [← key vx vy]; omega) (by rw [← key vy vx]; omega)
    · obtain rfl : y = Inf := by omega
      rw [read_inf]
      simp only [Datum.order, Bool.false_eq_true, if_false]
      rw [Nat.compare_eq_lt.2 hx1]
  · obtain rfl : x = Inf := by omega
    rw [read_inf]
    rcases Nat.lt_or_ge y Inf with hy1 | hy1
    · rw [read_lt hy1]
      simp only [Datum.order, Bool.false_eq_true, if_false]
      rw [Nat.compare_eq_gt.2 hy1]
    · obtain rfl : y = Inf := by omega
      rw [read_inf]
      simp only [Datum.order]
      rw [Nat.compare_eq_eq.2 rfl]; rfl

theorem near_le (m : Nat) (e : Int) : d64.nearest false m e ≤ Inf := by
  unfold Format.nearest
  rw [inf_eq]
  have hw : ∀ r, d64.word false r = r := fun r => by unfold Format.word; simp
  rw [hw]
  split
  · exact Nat.zero_le _
  · rw [hw]; exact Nat.min_le_right _ _
/-- rounding of a whole number of units -/
def rnd (M d : Nat) : Nat := M / 2 ^ d + (decide (2 ^ d < 2 * (M % 2 ^ d)) || (2 ^ d == 2 * (M % 2 ^ d) && M / 2 ^ d % 2 == 1)).toNat
def Nn (M : Nat) : Nat := if M = 0 then 0 else (M.log2 - 52) * Bn + rnd M (M.log2 - 52)
theorem log2_mul_pow {t b : Nat} (ht : t ≠ 0) : (t * 2 ^ b).log2 = t.log2 + b := by
  have hp : 0 < 2 ^ b := Nat.two_pow_pos _
  have hne : t * 2 ^ b ≠ 0 := Nat.mul_ne_zero ht (by omega)
  rw [Nat.log2_eq_iff hne]
  have h1 := Nat.log2_self_le ht
  have h2 := Nat.lt_log2_self (n := t)
  constructor
  · rw [Nat.pow_add]; exact Nat.mul_le_mul_right _ h1
  · rw [show t.log2 + b + 1 = (t.log2 + 1) + b by omega, Nat.pow_add]; exact Nat.mul_lt_mul_of_pos_right h2 hp
theorem near_at (t b : Nat) : d64.nearest false t (-1074 + (b : Int)) = min (Nn (t * 2 ^ b)) Inf := by
  unfold Format.nearest
  rw [inf_eq, binade_eq, least_eq, fb_eq]
  have hw : ∀ r, d64.word false r = r := fun r => by unfold Format.word; simp
  by_cases ht : t = 0
  · subst ht
    rw [if_pos rfl, Nat.zero_mul, hw]
    exact (Nat.zero_min _).symm
  · rw [if_neg ht, hw]
    have hp : 0 < 2 ^ b := Nat.two_pow_pos _
    have hne : t * 2 ^ b ≠ 0 := Nat.mul_ne_zero ht (by omega)
    have hl := log2_mul_pow (b := b) ht
    unfold Nn
    rw [if_neg hne, hl]
    generalize hL : t.log2 = L at *
    generalize hd : L + b - 52 = d
    have elast : max (-1074 + (b : Int) + (L : Int) - ((52 : Nat) : Int)) (-1074) = -1074 + (d : Int) := by omega
    simp only [elast]
    have e1 : (-1074 + (b : Int) - (-1074 + (d : Int))).toNat = b - d := by omega
    have e2 : (-1074 + (d : Int) - (-1074 + (b : Int))).toNat = d - b := by omega
    have e3 : (-1074 + (d : Int) - (-1074)).toNat = d := by omega
    rw [e1, e2, e3]
    have key : Toward.even.cut false (t <<< (b - d)) (d - b) = rnd (t * 2 ^ b) d := by
      unfold Toward.cut rnd
      rcases Nat.le_total d b with hdb | hdb
      · have z : d - b = 0 := by omega
        rw [z]
        simp only [Nat.zero_min, Nat.shiftLeft_zero, Nat.div_one, Nat.mod_one, Nat.mul_zero]
        have q : t * 2 ^ b = (t <<< (b - d)) * 2 ^ d := by rw [Nat.shiftLeft_eq, Nat.mul_assoc, ← Nat.pow_add, Nat.sub_add_cancel hdb]
        rw [q, Nat.mul_div_cancel _ (Nat.two_pow_pos d), Nat.mul_mod_left]
        have hpd : 0 < 2 ^ d := Nat.two_pow_pos d
        have n1 : ¬ 2 ^ d < 2 * 0 := by omega
        have n2 : ¬ 2 ^ d = 2 * 0 := by omega
        simp [n1, n2]
      · have z : b - d = 0 := by omega
        rw [z, Nat.shiftLeft_zero]
        have hlog : t.log2 + 2 ≥ d - b := by omega
        have em : min (d - b) (t.log2 + 2) = d - b := Nat.min_eq_left hlog
        rw [em, Nat.one_shiftLeft]
        have pd : 2 ^ d = 2 ^ (d - b) * 2 ^ b := by rw [← Nat.pow_add, Nat.sub_add_cancel hdb]
        have ed : t * 2 ^ b / 2 ^ d = t / 2 ^ (d - b) := by rw [pd, Nat.mul_div_mul_right _ _ hp]
        have emo : t * 2 ^ b % 2 ^ d = t % 2 ^ (d - b) * 2 ^ b := by rw [pd, Nat.mul_mod_mul_right]
        rw [ed, emo, pd]
        have c1 : (decide (2 ^ (d - b) * 2 ^ b < 2 * (t % 2 ^ (d - b) * 2 ^ b))) = decide (2 ^ (d - b) < 2 * (t % 2 ^ (d - b))) := by
          rw [← Nat.mul_assoc]
          exact decide_eq_decide.2 (Nat.mul_lt_mul_right hp)
        have c2 : (2 ^ (d - b) * 2 ^ b == 2 * (t % 2 ^ (d - b) * 2 ^ b)) = (2 ^ (d - b) == 2 * (t % 2 ^ (d - b))) := by
          rw [← Nat.mul_assoc, Bool.eq_iff_iff, beq_iff_eq, beq_iff_eq]
          exact Nat.mul_left_inj (by omega)
        rw [c1, c2]
    rw [key]
theorem rnd_ge (M d : Nat) : M / 2 ^ d ≤ rnd M d := Nat.le_add_right _ _
theorem rnd_le (M d : Nat) : rnd M d ≤ M / 2 ^ d + 1 := by
  unfold rnd
  have := Bool.toNat_le (decide (2 ^ d < 2 * (M % 2 ^ d)) || (2 ^ d == 2 * (M % 2 ^ d) && M / 2 ^ d % 2 == 1))
  omega
theorem rnd_mono {M M' : Nat} (h : M ≤ M') (d : Nat) : rnd M d ≤ rnd M' d := by
  have hp : 0 < 2 ^ d := Nat.two_pow_pos d
  have hq := Nat.div_le_div_right (c := 2 ^ d) h
  rcases Nat.lt_or_ge (M / 2 ^ d) (M' / 2 ^ d) with hlt | hge
  · have := rnd_le M d
    have := rnd_ge M' d
    omega
  · have eq : M / 2 ^ d = M' / 2 ^ d := by omega
    have d1 := Nat.div_add_mod M (2 ^ d)
    have d2 := Nat.div_add_mod M' (2 ^ d)
    rw [← eq] at d2
    have hr : M % 2 ^ d ≤ M' % 2 ^ d := by omega
    unfold rnd
    rw [eq]
    refine Nat.add_le_add_left ?_ _
    generalize M % 2 ^ d = r at *
    generalize M' % 2 ^ d = r' at *
    generalize 2 ^ d = k at *
    generalize (M' / k % 2 == 1) = od
    by_cases c : k < 2 * r'
    · simp only [c, decide_true, Bool.true_or, Bool.toNat_true]; exact Bool.toNat_le _
    · have c0 : ¬ k < 2 * r := by omega
      by_cases c1 : k = 2 * r
      · have : k = 2 * r' := by omega
        have hrr : r = r' := by omega
        rw [hrr]; exact Nat.le_refl _
      · have c2 : (k == 2 * r) = false := by simpa using c1
        simp [c0, c2]
theorem nn_zero : Nn 0 = 0 := rfl
theorem div_log {M : Nat} (h : M ≠ 0) (hl : 52 ≤ M.log2) : Bn ≤ M / 2 ^ (M.log2 - 52) ∧ M / 2 ^ (M.log2 - 52) < 2 * Bn := by
  have h1 := Nat.log2_self_le h
  have h2 := Nat.lt_log2_self (n := M)
  have hp : 0 < 2 ^ (M.log2 - 52) := Nat.two_pow_pos _
  have e1 : Bn * 2 ^ (M.log2 - 52) = 2 ^ M.log2 := by rw [bn_pow, ← Nat.pow_add]; congr 1; omega
  refine ⟨(Nat.le_div_iff_mul_le hp).2 (by omega), (Nat.div_lt_iff_lt_mul hp).2 ?_⟩
  rw [Nat.mul_assoc, e1, ← Nat.pow_succ']; exact h2
theorem nn_small {M : Nat} (hl : M.log2 ≤ 52) : Nn M = M := by
  unfold Nn
  by_cases h : M = 0
  · rw [if_pos h, h]
  · rw [if_neg h, show M.log2 - 52 = 0 by omega]
    simp [rnd, Nat.mod_one]
theorem nn_range {M : Nat} (h : M ≠ 0) (hl : 52 ≤ M.log2) : (M.log2 - 52 + 1) * Bn ≤ Nn M ∧ Nn M ≤ (M.log2 - 52 + 2) * Bn := by
  unfold Nn
  rw [if_neg h]
  have h1 := div_log h hl
  have h2 := rnd_ge M (M.log2 - 52)
  have h3 := rnd_le M (M.log2 - 52)
  rw [Nat.add_mul, Nat.add_mul]
  omega
theorem nn_mono {M M' : Nat} (h : M ≤ M') : Nn M ≤ Nn M' := by
  by_cases h0 : M = 0
  · rw [h0, nn_zero]; exact Nat.zero_le _
  have h0' : M' ≠ 0 := by omega
  have hL : M.log2 ≤ M'.log2 := (Nat.le_log2 h0').2 (Nat.le_trans (Nat.log2_self_le h0) h)
  rcases Nat.lt_or_ge M.log2 M'.log2 with hlt | hge
  · rcases Nat.lt_or_ge M'.log2 53 with h53 | h53
    · rw [nn_small (by omega), nn_small (by omega)]; exact h
    · have r' := (nn_range h0' (by omega)).1
      rcases Nat.lt_or_ge M.log2 52 with h52 | h52
      · rw [nn_small (by omega)]
        have : M < 2 ^ (M.log2 + 1) := Nat.lt_log2_self
        have : 2 ^ (M.log2 + 1) ≤ 2 ^ 52 := Nat.pow_le_pow_right (by omega) (by omega)
        have : 1 * Bn ≤ (M'.log2 - 52 + 1) * Bn := Nat.mul_le_mul_right _ (by omega)
        rw [← bn_pow] at *
        omega
      · have r := (nn_range h0 h52).2
        have : (M.log2 - 52 + 2) * Bn ≤ (M'.log2 - 52 + 1) * Bn := Nat.mul_le_mul_right _ (by omega)
        omega
  · have eq : M.log2 = M'.log2 := by omega
    unfold Nn
    rw [if_neg h0, if_neg h0', eq]
    exact Nat.add_le_add_left (rnd_mono h _) _
theorem nn_exact (x : Nat) : Nn (V x) = x := by
  unfold V mg sh
  by_cases hx : x < Bn
  · rw [if_pos hx, if_pos hx, Nat.pow_zero, Nat.mul_one]
    refine nn_small ?_
    by_cases h0 : x = 0
    · subst h0; decide
    · have := (Nat.log2_lt h0 (k := 52)).2 (by rw [← bn_pow]; exact hx)
      omega
  · rw [if_neg hx, if_neg hx]
    have hB : 0 < Bn := by decide
    have rx : x % Bn < Bn := Nat.mod_lt _ hB
    have dx := Nat.div_add_mod x Bn
    have qx : 1 ≤ x / Bn := (Nat.le_div_iff_mul_le hB).2 (by omega)
    generalize x / Bn = a at *
    generalize x % Bn = r at *
    have hl : (Bn + r).log2 = 52 := by
      rw [Nat.log2_eq_iff (by omega), ← bn_pow, Nat.pow_succ, ← bn_pow]; omega
    have hne : Bn + r ≠ 0 := by omega
    have hlog := log2_mul_pow (b := a - 1) hne
    have hp : 0 < 2 ^ (a - 1) := Nat.two_pow_pos _
    unfold Nn
    rw [if_neg (Nat.mul_ne_zero hne (by omega)), hlog, hl, show 52 + (a - 1) - 52 = a - 1 by omega]
    have er : rnd ((Bn + r) * 2 ^ (a - 1)) (a - 1) = Bn + r := by
      unfold rnd
      rw [Nat.mul_div_cancel _ hp, Nat.mul_mod_left]
      have n1 : ¬ 2 ^ (a - 1) < 2 * 0 := by omega
      have n2 : ¬ 2 ^ (a - 1) = 2 * 0 := by omega
      simp [n1, n2]
    rw [er, Nat.sub_mul, Nat.one_mul]
    have : Bn * a = a * Bn := Nat.mul_comm _ _
    have : Bn ≤ a * Bn := Nat.le_mul_of_pos_left _ qx
    omega

theorem word_inf : d64.write (.infinity false) = Inf := by decide +kernel
/-- the sum of two -/
theorem add_eq {x y : Nat} (hx : x < Inf) (hy : y < Inf) : d64.add x y = some (min (Nn (V x + V y)) Inf) := by
  unfold Format.add
  rw [read_lt hx, read_lt hy]
  simp only [Datum.sum, signed, Bool.false_eq_true, if_false, Option.map_some]
  have e : min (-1074 + (sh x : Int)) (-1074 + (sh y : Int)) = -1074 + ((min (sh x) (sh y) : Nat) : Int) := by omega
  rw [e]
  have ex : ((-1074 + (sh x : Int)) - (-1074 + ((min (sh x) (sh y) : Nat) : Int))).toNat = sh x - min (sh x) (sh y) := by omega
  have ey : ((-1074 + (sh y : Int)) - (-1074 + ((min (sh x) (sh y) : Nat) : Int))).toNat = sh y - min (sh x) (sh y) := by omega
  rw [ex, ey]
  have vx := shl_V (x := x) (b := min (sh x) (sh y)) (Nat.min_le_left _ _)
  have vy := shl_V (x := y) (b := min (sh x) (sh y)) (Nat.min_le_right _ _)
  generalize mg x <<< (sh x - min (sh x) (sh y)) = p at *
  generalize mg y <<< (sh y - min (sh x) (sh y)) = q at *
  congr 1
  have es : (if ((p : Int) + (q : Int)) = 0 then (false && false) else decide (((p : Int) + (q : Int)) < 0)) = false := by
    split
    · rfl
    · simp; omega
  rw [es]
  have en : ((p : Int) + (q : Int)).natAbs = p + q := by omega
  rw [en]
  show d64.nearest false (p + q) _ = _
  rw [near_at, Nat.add_mul, vx, vy]
theorem add_nn {x y : Nat} (hx : x ≤ Inf) (hy : y ≤ Inf) : ∃ z, d64.add x y = some z ∧ z ≤ Inf ∧ x ≤ z := by
  rcases Nat.lt_or_ge x Inf with hx1 | hx1
  · rcases Nat.lt_or_ge y Inf with hy1 | hy1
    · refine ⟨_, add_eq hx1 hy1, Nat.min_le_right _ _, ?_⟩
      have := nn_mono (Nat.le_add_right (V x) (V y))
      rw [nn_exact] at this
      exact Nat.le_min.2 ⟨this, hx⟩
    · obtain rfl : y = Inf := by omega
      refine ⟨Inf, ?_, Nat.le_refl _, hx⟩
      unfold Format.add
      rw [read_lt hx1, read_inf]
      simp only [Datum.sum, Option.map_some, word_inf]
  · obtain rfl : x = Inf := by omega
    refine ⟨Inf, ?_, Nat.le_refl _, Nat.le_refl _⟩
    unfold Format.add
    rw [read_inf]
    rcases Nat.lt_or_ge y Inf with hy1 | hy1
    · rw [read_lt hy1]; simp only [Datum.sum, Option.map_some, word_inf]
    · obtain rfl : y = Inf := by omega
      rw [read_inf]; decide +kernel
/-- a bound of a sum by powers of two -/
theorem add_coarse {x y k : Nat} (hx : x < (k + 1) * Bn) (hy : y < (k + 1) * Bn) (hk : 1 ≤ k) (hk2 : k ≤ 2000) : ∃ z, d64.add x y = some z ∧ z ≤ (k + 2) * Bn := by
  have hI : (k + 1) * Bn ≤ Inf := Nat.le_trans (Nat.mul_le_mul_right Bn (show k + 1 ≤ 2001 by omega)) (by decide)
  refine ⟨_, add_eq (by omega) (by omega), Nat.le_trans (Nat.min_le_left _ _) ?_⟩
  have vb : ∀ {x : Nat}, x < (k + 1) * Bn → V x < 2 * Bn * 2 ^ (k - 1) := fun {x} hx => by
    unfold V
    have hs : sh x ≤ k - 1 := by
      unfold sh; split
      · omega
      · have : x / Bn < k + 1 := (Nat.div_lt_iff_lt_mul (by decide)).2 hx
        omega
    have h1 : mg x * 2 ^ sh x ≤ mg x * 2 ^ (k - 1) := Nat.mul_le_mul_left _ (Nat.pow_le_pow_right (by omega) hs)
    have h2 : mg x * 2 ^ (k - 1) < 2 * Bn * 2 ^ (k - 1) := Nat.mul_lt_mul_of_pos_right (mg_lt x) (Nat.two_pow_pos _)
    omega
  have h1 := vb hx
  have h2 := vb hy
  by_cases h0 : V x + V y = 0
  · rw [h0, nn_zero]; exact Nat.zero_le _
  have hlog : (V x + V y).log2 < 52 + (k - 1) + 2 := by
    rw [Nat.log2_lt h0, Nat.pow_add, Nat.pow_add, ← bn_pow]
    have : 2 ^ 2 = 4 := rfl
    rw [this]
    have e : Bn * 2 ^ (k - 1) * 4 = 2 * Bn * 2 ^ (k - 1) + 2 * Bn * 2 ^ (k - 1) := by
      generalize 2 ^ (k - 1) = q
      rw [Nat.mul_assoc 2 Bn q]; omega
    omega
  rcases Nat.lt_or_ge (V x + V y).log2 52 with hs | hs
  · rw [nn_small (by omega)]
    have : V x + V y < 2 ^ ((V x + V y).log2 + 1) := Nat.lt_log2_self
    have : 2 ^ ((V x + V y).log2 + 1) ≤ 2 ^ 52 := Nat.pow_le_pow_right (by omega) (by omega)
    have : 1 * Bn ≤ (k + 2) * Bn := Nat.mul_le_mul_right _ (by omega)
    rw [← bn_pow] at *
    omega
  · have := (nn_range h0 hs).2
    have : ((V x + V y).log2 - 52 + 2) * Bn ≤ (k + 2) * Bn := Nat.mul_le_mul_right _ (by omega)
    omega
/-- what is left of a product with a number -/
theorem mul_nn {x y m : Nat} {e : Int} (hx : x ≤ Inf) (hy : d64.read y = .number false m e) (hm : m ≠ 0) : ∃ z, d64.mul x y = some z ∧ z ≤ Inf := by
  unfold Format.mul
  rw [hy]
  rcases Nat.lt_or_ge x Inf with hx1 | hx1
  · rw [read_lt hx1]
    exact ⟨_, rfl, near_le _ _⟩
  · obtain rfl : x = Inf := by omega
    rw [read_inf]
    simp only [Datum.product, hm, if_false, Option.map_some]
    exact ⟨_, rfl, by show d64.write (.infinity (false ^^ false)) ≤ Inf; rw [show (false ^^ false) = false by rfl, word_inf]; exact Nat.le_refl _⟩
theorem div_nn {x y m : Nat} {e : Int} (hx : x ≤ Inf) (hy : d64.read y = .number false m e) (hm : m ≠ 0) : ∃ z, d64.div x y = some z ∧ z ≤ Inf := by
  unfold Format.div
  rw [hy]
  rcases Nat.lt_or_ge x Inf with hx1 | hx1
  · rw [read_lt hx1]
    simp only [Datum.quotient, hm, if_false, Option.map_some]
    exact ⟨_, rfl, near_le _ _⟩
  · obtain rfl : x = Inf := by omega
    rw [read_inf]
    simp only [Datum.quotient, Option.map_some]
    exact ⟨_, rfl, by show d64.write (.infinity (false ^^ false)) ≤ Inf; rw [show (false ^^ false) = false by rfl, word_inf]; exact Nat.le_refl _⟩
end Go.Proofs.Ytfifgopmegbifaa.Fl
