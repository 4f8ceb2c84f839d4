/- Scores and step stay at most 1e100. -/
import Derived.Test.YtfifgopmegbifaaHeatR
set_option linter.unusedVariables false
set_option linter.unusedSimpArgs false
set_option maxRecDepth 100000
namespace Go.Proofs.Ytfifgopmegbifaa.Fl
open Go Ieee

theorem cut_le {t d u : Nat} (h : t.log2 + 1 ≤ d + u) (ht : t ≠ 0) : Toward.even.cut false t d ≤ 2 ^ u := by
  unfold Toward.cut
  have hlt : t < 2 ^ (t.log2 + 1) := Nat.lt_log2_self
  simp only [Nat.one_shiftLeft]
  have key : t / 2 ^ min d (t.log2 + 2) < 2 ^ u := by
    rw [Nat.div_lt_iff_lt_mul (Nat.two_pow_pos _), ← Nat.pow_add]
    refine Nat.lt_of_lt_of_le hlt (Nat.pow_le_pow_right (by omega) (by omega))
  have hb : ∀ b : Bool, b.toNat ≤ 1 := Bool.toNat_le
  exact Nat.le_trans (Nat.add_le_add_left (hb _) _) key
theorem near_coarse (t : Nat) (place : Int) : d64.nearest false t place ≤ ((place + (t.log2 : Int) - 52 + 1074).toNat + 2) * Bn := by
  unfold Format.nearest
  have hw : ∀ r, d64.word false r = r := fun r => by unfold Format.word; simp
  by_cases ht : t = 0
  · rw [if_pos ht, hw]; exact Nat.zero_le _
  rw [if_neg ht, hw, binade_eq, least_eq, fb_eq]
  refine Nat.le_trans (Nat.min_le_left _ _) ?_
  generalize hl : max (place + (t.log2 : Int) - ((52 : Nat) : Int)) (-1074) = last
  have e1 : (last - -1074).toNat = (place + (t.log2 : Int) - 52 + 1074).toNat := by omega
  rw [e1, Nat.add_mul]
  have e2 : 2 * Bn = 2 ^ 53 := by decide
  have : Toward.even.cut false (t <<< (place - last).toNat) (last - place).toNat ≤ 2 ^ 53 := by
    rw [Nat.shiftLeft_eq]
    refine cut_le ?_ (Nat.mul_ne_zero ht (by have := Nat.two_pow_pos (place - last).toNat; omega))
    rw [log2_mul_pow ht]
    omega
  omega
theorem mul_coarse {x y z : Nat} (hx : x < Inf) (hy : y < Inf) (hz : d64.mul x y = some z) : z ≤ ((sh x + sh y - 1021 : Nat) + 2) * Bn := by
  unfold Format.mul at hz
  rw [read_lt hx, read_lt hy] at hz
  simp only [Datum.product, Option.map_some, Option.some.injEq] at hz
  subst hz
  refine Nat.le_trans (near_coarse _ _) (Nat.mul_le_mul_right _ ?_)
  have hb := bn_pow
  have h1 := mg_lt x
  have h2 := mg_lt y
  have hlog : (mg x * mg y).log2 ≤ 105 := by
    by_cases h0 : mg x * mg y = 0
    · rw [h0]; decide
    have : mg x * mg y < 2 ^ 106 := by
      have : mg x * mg y ≤ (2 * Bn) * (2 * Bn - 1) := Nat.mul_le_mul (by omega) (by omega)
      have : (2 * Bn) * (2 * Bn - 1) < 2 ^ 106 := by decide
      omega
    have := (Nat.log2_lt h0).2 this
    omega
  omega
theorem div_coarse {x d n : Nat} {j : Int} {z : Nat} (hx : x < Inf) (hd : d64.read d = .number false n j) (hn : n ≠ 0) (hj : -1 ≤ (n.log2 : Int) + j) (hz : d64.div x d = some z) : z ≤ (sh x + 3) * Bn := by
  unfold Format.div at hz
  rw [read_lt hx, hd] at hz
  simp only [Datum.quotient, hn, if_false, Option.map_some, Option.some.injEq] at hz
  subst hz
  refine Nat.le_trans (near_coarse _ _) (Nat.mul_le_mul_right _ ?_)
  rw [fb_eq]
  have hb := bn_pow
  have h1 := mg_lt x
  have hlm : (mg x).log2 ≤ 52 := by
    by_cases h0 : mg x = 0
    · rw [h0]; decide
    have : mg x < 2 ^ 53 := by have : 2 * Bn = 2 ^ 53 := by decide
                               omega
    have := (Nat.log2_lt h0).2 this
    omega
  generalize hm : 52 + 2 + n.log2 - (mg x).log2 = more
  have hq : mg x <<< more / n < 2 ^ 55 := by
    rw [Nat.shiftLeft_eq, Nat.div_lt_iff_lt_mul (Nat.pos_of_ne_zero hn)]
    have a1 : mg x < 2 ^ ((mg x).log2 + 1) := Nat.lt_log2_self
    have a2 : 2 ^ n.log2 ≤ n := Nat.log2_self_le hn
    have a3 : mg x * 2 ^ more < 2 ^ ((mg x).log2 + 1) * 2 ^ more := Nat.mul_lt_mul_of_pos_right a1 (Nat.two_pow_pos _)
    rw [← Nat.pow_add, show (mg x).log2 + 1 + more = 55 + n.log2 by omega, Nat.pow_add] at a3
    have a4 : 2 ^ 55 * 2 ^ n.log2 ≤ 2 ^ 55 * n := Nat.mul_le_mul_left _ a2
    omega
  have hlog : (2 * (mg x <<< more / n) + (mg x <<< more % n != 0).toNat).log2 ≤ 55 := by
    have hbt := Bool.toNat_le (mg x <<< more % n != 0)
    generalize mg x <<< more / n = q at *
    generalize (mg x <<< more % n != 0).toNat = r at *
    by_cases h0 : 2 * q + r = 0
    · rw [h0]; decide
    have : 2 * q + r < 2 ^ 56 := by
      have : (2 : Nat) ^ 56 = 2 * 2 ^ 55 := by decide
      omega
    have := (Nat.log2_lt h0).2 this
    omega
  show ((-1074 + (sh x : Int) - j - (more : Int) - 1 + _ - 52 + 1074).toNat + 2 ≤ _)
  omega
theorem sh_le {x k : Nat} (h : x < (k + 1) * Bn) (hk : 1 ≤ k) : sh x ≤ k - 1 := by
  unfold sh; split
  · omega
  · have : x / Bn < k + 1 := (Nat.div_lt_iff_lt_mul (by decide)).2 h
    omega
end Go.Proofs.Ytfifgopmegbifaa.Fl
namespace Go.Proofs.Ytfifgopmegbifaa.Heat
open Go Go.Proofs.Ytfifgopmegbifaa.Vc Go.Proofs.Ytfifgopmegbifaa.T
/-- at most 1e100 -/
def Low (sc : List Nat) (step : Nat) : Prop := (∀ x ∈ sc, x ≤ most) ∧ step ≤ most
theorem most_inf : most < Fl.Inf := by decide
theorem over_no {x : Nat} (hx : x ≤ Fl.Inf) (h : over x = false) : x ≤ most := by
  unfold over at h
  have h1 := Fl.ord hx (Nat.le_of_lt most_inf)
  change (Fl.d64.order x most == some .gt) = false at h
  rw [h1] at h
  apply Classical.byContradiction
  intro hn
  rw [Nat.compare_eq_gt.2 (by omega)] at h
  exact absurd h (by decide)
theorem fmul_low {x : Nat} (hx : x ≤ 1600 * Fl.Bn) : fmul x ≤ most := by
  have hI : 1600 * Fl.Bn < Fl.Inf := by decide
  have h1 := (fmul_eq (x := x) (by omega)).1
  have h2 := Fl.mul_coarse (by omega) (show small < Fl.Inf by decide) h1
  have h3 := Fl.sh_le (x := x) (k := 1600) (by have : 0 < Fl.Bn := by decide
                                               omega) (by omega)
  have h4 : Fl.sh small = 689 := by decide +kernel
  rw [h4] at h2
  have : (Fl.sh x + 689 - 1021 + 2) * Fl.Bn ≤ 1270 * Fl.Bn := Nat.mul_le_mul_right _ (by omega)
  have : 1270 * Fl.Bn ≤ most := by decide
  omega
theorem most_bn : most < 1356 * Fl.Bn := by decide
theorem low_map {sc : List Nat} (h : ∀ x ∈ sc, x ≤ 1600 * Fl.Bn) : ∀ x ∈ sc.map fmul, x ≤ most := fun x hx => by
  obtain ⟨y, hy, rfl⟩ := List.mem_map.1 hx
  exact fmul_low (h y hy)
theorem dec_log {n : Int} {d : Nat} (h : fine n d = true) : ∃ m e, Fl.d64.read d = .number false m e ∧ m ≠ 0 ∧ -1 ≤ (m.log2 : Int) + e := by
  obtain ⟨_, _, m, e, hr, hm⟩ := fine_dec h
  refine ⟨m, e, hr, hm, ?_⟩
  unfold fine at h
  simp only [Bool.and_eq_true, decide_eq_true_eq] at h
  obtain ⟨⟨_, _⟩, h3, _⟩ := h
  change ((Fl.d64.order d 4602678819172646912 == some .gt || Fl.d64.order d 4602678819172646912 == some .eq) = true) at h3
  have hh : Fl.d64.read 4602678819172646912 = .number false 4503599627370496 (-53) := by
    rw [Fl.read_lt (by decide)]
    decide +kernel
  have o1 : Fl.d64.order d 4602678819172646912 = (Ieee.Datum.number false m e).order (.number false 4503599627370496 (-53)) := by rw [← hh, ← hr]; rfl
  rw [o1] at h3
  simp only [Ieee.Datum.order] at h3
  generalize hb : min e (-53) = base at h3
  apply Classical.byContradiction
  intro hlt
  have hp : m <<< (e - base).toNat < 4503599627370496 <<< (-53 - base).toNat := by
    rw [Nat.shiftLeft_eq, Nat.shiftLeft_eq, show (4503599627370496 : Nat) = 2 ^ 52 by decide, ← Nat.pow_add]
    refine (Nat.log2_lt (Nat.mul_ne_zero hm (by have := Nat.two_pow_pos (e - base).toNat; omega))).1 ?_
    rw [Fl.log2_mul_pow hm]
    omega
  have : compare (Ieee.signed false m (e - base).toNat) (Ieee.signed false 4503599627370496 (-53 - base).toNat) = .lt := by
    refine Int.compare_eq_lt.2 ?_
    unfold Ieee.signed
    simp only [Bool.false_eq_true, if_false]
    exact_mod_cast hp
  rw [this] at h3
  exact absurd h3 (by decide)
theorem jok_low : Jok Low := by
  refine ⟨fun n => ⟨fun x hx => by rw [(List.mem_replicate.1 hx).2]; exact Nat.zero_le _, by decide⟩, fun {n sc step decay wb v} hw hv hJ => ?_, fun {n sc step decay wb} hw hf hJ => ?_⟩
  · have hk : (v - 1).toNat < sc.length := by have := hw.scl; omega
    have hx := hJ.1 _ (getD_mem hk)
    have hs := fsum_eq (hw.nn _ (getD_mem hk)) hw.st
    have mb := most_bn
    obtain ⟨z, hz, hzl⟩ := Fl.add_coarse (k := 1355) (x := sc.getD (v - 1).toNat 0) (y := step) (by omega) (by have := hJ.2; omega) (by omega) (by omega)
    have ez : fsum (sc.getD (v - 1).toNat 0) step = z := by unfold fsum; rw [hz]; rfl
    unfold bumpS
    cases ho : over (fsum (sc.getD (v - 1).toNat 0) step) with
    | true =>
      refine ⟨low_map fun x hx => ?_, fmul_low (by have := hJ.2; omega)⟩
      rcases List.mem_or_eq_of_mem_set hx with hx | hx
      · have := hJ.1 x hx; omega
      · rw [hx, ez]; exact Nat.le_trans hzl (Nat.mul_le_mul_right _ (by omega))
    | false =>
      refine ⟨fun x hx => ?_, hJ.2⟩
      rcases List.mem_or_eq_of_mem_set hx with hx | hx
      · exact hJ.1 x hx
      · rw [hx]; exact over_no hs.2.1 ho
  · have hs := fdiv_eq hw.st hw.dec
    have mb := most_bn
    have mi := most_inf
    have hst := hJ.2
    obtain ⟨m, e, hr, hm, hl⟩ := dec_log hf
    have hc := Fl.div_coarse (x := step) (by omega) hr hm hl hs.1
    have hsh := Fl.sh_le (x := step) (k := 1355) (by omega) (by omega)
    unfold coolS
    cases ho : over (fdiv step decay) with
    | true =>
      refine ⟨low_map fun x hx => ?_, fmul_low (Nat.le_trans hc (Nat.mul_le_mul_right _ (by omega)))⟩
      have := hJ.1 x hx; omega
    | false => exact ⟨hJ.1, over_no hs.2 ho⟩
end Go.Proofs.Ytfifgopmegbifaa.Heat
