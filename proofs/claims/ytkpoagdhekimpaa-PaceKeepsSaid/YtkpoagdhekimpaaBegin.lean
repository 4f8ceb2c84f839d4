/- PaceBegins: its walk. -/
import Derived.Test.YtkpoagdhekimpaaSpans
set_option linter.unusedVariables false
set_option linter.unusedSimpArgs false
set_option maxRecDepth 100000
namespace Go.Proofs.Ytkpoagdhekimpaa.Pace
open Go Go.Proofs.Ytkpoagdhekimpaa.Vc Go.Proofs.Ytkpoagdhekimpaa.T

theorem isK_le {b f g N M : Int} (hb : 1 ≤ b) {k l : Nat} (h : IsK b f g N k) (h' : IsK b f g M l) (hN : N ≤ M) : k ≤ l := by
  rcases Nat.lt_or_ge l k with hl | hl
  · have := pst_mono (f := f) (g := g) hb (show l + 1 ≤ k by omega); have := h.1; have := h'.2; omega
  · exact hl
theorem slA0 {w : World} {e : TypeId} {sz n c : Nat} {p : Option Addr} {xs : List Value} (h : Vc.Own w e sz p n c xs) : slA p c 0 2 = p := by
  unfold slA
  split
  · rfl
  · rcases h with ⟨rfl, _⟩ | ⟨b, cs, rfl, _⟩
    · rfl
    · show some (Addr.add _ _) = _
      rw [add_mk]
theorem law11 (b f g : Int) (d : Nat) (p q N M : Int) (w : World) : Calls Try.prog 11 #[.agg #[I b, I f, I g, F d, I p, I q], I N, I M] w fun e w' => e = .returned (.bool true) ∧ RowKit.Below w.heap.size w w' := by
  refine (V11_calls b f g d p q N M w (Yes w) ?_).mono fun e w' ⟨v, he, hv, hk⟩ => ⟨by rw [he, hv], hk.below0⟩
  unfold V11
  refine alc_at fun b2 w1 hb2 hC k1 => ?_
  refine ⟨fun s w2 => w2 = w1 ∧ 0 ≤ s.1 ∧ s.1 ≤ 5000, ?_, ?_⟩
  · refine pif_of (fun h => ⟨rfl, by decide, by decide⟩) fun h => ⟨rfl, ?_⟩
    simp at h; exact ⟨by show 0 ≤ N; omega, by show N ≤ 5000; omega⟩
  rintro ⟨n, ⟨⟩⟩ w2 ⟨rfl, hn0, hn1⟩
  simp only [] at hn0 hn1 ⊢
  refine ⟨fun s w3 => w3 = w2 ∧ 0 ≤ s.1 ∧ s.1 ≤ 5000, ?_, ?_⟩
  · refine pif_of (fun h => ⟨rfl, by decide, by decide⟩) fun h => ⟨rfl, ?_⟩
    simp at h; exact ⟨by show 0 ≤ M; omega, by show M ≤ 5000; omega⟩
  rintro ⟨m, ⟨⟩⟩ w3 ⟨rfl, hm0, hm1⟩
  simp only [] at hm0 hm1 ⊢
  have ew : IntKind.wrap .i64 (n + m) = n + m := by rw [IntKind.wrap_i64]; omega
  rw [ew]
  refine ld6 hC ?_
  have fin : ∀ (x20 x30 : Option Addr) (x20n x20c x30n x30c : Nat) (xs ys : List (Int × Bool)) (w9 : World), Keep None w w9 → Vc.Own w9 50 2 x20 x20n x20c (bcells xs) → Vc.Own w9 50 2 x30 x30n x30c (bcells ys) → x20n ≤ x30n → ys.take x20n = xs → x30n ≤ 1099511627776 →
      (∀ (i : Nat) (y : Int × Bool), ys[i]? = some y → decide ((i : Int) < x20n) = decide (y.1 ≤ n)) →
      lp (σ := Int × Unit) (fun s50 w9 k49 => match s50 with
      | (v48, _) =>
      pif (decide (v48 < (x30n : Int))) (
        ixA x30 x30n v48 2 fun p53 =>
        ldI .i64 w9 (p53.add 0) fun x54 =>
        pif (!((decide (v48 < (x20n : Int))) == (decide (x54 ≤ n)))) (
          Yes w (.bool false) w9) (
          k49 ((IntKind.wrap .i64 (v48 + 1)), ()) w9)) (
        0 ≤ (x20n : Int) ∧ (x20n : Int) ≤ (x30c : Int) ∧
        cl Try.prog 23 [.slice x20 x20n x20c, .slice (slA x30 x30c 0 2) ((Int.toNat (x20n : Int)) - 0) (x30c - 0)] w9 fun e59 w10 => ∃ x58 : Bool, e59 = Ending.returned (.bool x58) ∧
        gd (α := Int) x58 (fun k60 =>
          cl Try.prog 15 [.int .i64 3] w10 fun e62 w11 => ∃ x61 : Int, e62 = Ending.returned (.int .i64 x61) ∧
          k60 x61 w11) 0 w10 fun x63 w12 =>
        Yes w (.bool (cond x58 (x63 == 2) false)) w12)) (0, ()) w9 := by
    intro x20 x30 x20n x20c x30n x30c xs ys w9 kW hO hO' hle htk hb hat
    refine lp_of (fun s V => ∃ i : Nat, s.1 = i ∧ i ≤ x30n ∧ V = w9) (fun s _ => (x30n - s.1).toNat) ⟨0, rfl, Nat.zero_le _, rfl⟩ ?_
    rintro ⟨v', ⟨⟩⟩ V ⟨i, e1, hi, rfl⟩
    simp only [] at e1 ⊢
    subst e1
    have hyl : ys.length = x30n := (rd_of_own hO').1
    refine pif_of (fun hlt => ?_) fun hge => ?_
    · have hlt : i < x30n := by simpa using hlt
      have hy : ys[i]? = some (ys[i]'(by omega)) := List.getElem?_eq_getElem _
      refine (rd_of_own hO').ix hy fun bb o c1 c2 => ?_
      rw [add_mk, Nat.add_zero]
      refine ldI_of c1 ?_
      rw [hat i _ hy]
      have ew : IntKind.wrap .i64 ((i : Int) + 1) = ((i + 1 : Nat) : Int) := by rw [IntKind.wrap_i64]; omega
      rw [ew]
      exact pif_f (by simp) ⟨⟨i + 1, rfl, hlt, by first | rfl | trivial⟩, by omega⟩
    · refine ⟨by omega, by have := hO'.le; omega, ?_⟩
      rw [slA0 hO', Int.toNat_natCast, Nat.sub_zero, Nat.sub_zero]
      have hcut := hO'.cut hle
      have hbt : (bcells ys).take (x20n * 2) = bcells xs := by
        rw [← htk]
        have h1 : bcells ys = bcells (ys.take x20n) ++ bcells (ys.drop x20n) := by rw [← bcells_app, List.take_append_drop]
        rw [h1]
        exact List.take_left' (by rw [bcells_len, List.length_take, hyl, Nat.min_eq_left hle])
      rw [hbt] at hcut
      refine cl_of ok23 (same23 (rd_of_own hO) (rd_of_own hcut) (by omega)) fun e w10 ⟨he, k10⟩ => ⟨_, he, ?_⟩
      refine gd_t rfl (cl_of ok15 (luby15 3 w10 (by omega)) fun e w11 ⟨he, hw⟩ => ⟨_, he, ?_⟩)
      subst hw
      have hl3 : lub 3 = 2 := by rw [lub_end (by omega) (by decide)]; decide
      show Yes w (.bool (((lub 3 : Nat) : Int) == 2)) _
      rw [hl3]
      exact ⟨rfl, kW.then0 k10⟩
  rcases Bool.eq_false_or_eq_true (formed b f g d p) with hf | hf
  · obtain ⟨rb1, _⟩ := formed_range hf
    refine cl_of ok21 (plan21 hf (N := n) (by omega) (by omega) w3) fun e w4 ⟨v, he, k, op, oc, hK, hv, k4, hO, hfr⟩ => ?_
    subst hv
    refine ⟨_, _, _, _, he, ?_⟩
    refine ld6 (hC.keep0 k4) ?_
    refine cl_of ok21 (plan21 hf (N := n + m) (by omega) (by omega) w4) fun e w5 ⟨v, he, l, op', oc', hK', hv, k5, hO', hfr'⟩ => ?_
    subst hv
    refine ⟨_, _, _, _, he, ?_⟩
    have hC5 := (hC.keep0 k4).keep0 k5
    refine gd_t rfl (ld6 hC5 ?_)
    refine gd_t rfl (cl_of ok13 (formed13 b f g d p q w5) fun e w6 ⟨he, k6⟩ => ⟨_, he, ?_⟩)
    have hkl := isK_le rb1 hK hK' (by omega)
    have hlb : (l : Int) ≤ 10000 := by have := pst_ge (f := f) (g := g) rb1 l; have := hK'.1; omega
    refine pif_f ?_ ?_
    · rw [hf, decide_eq_false (show ¬ (k : Int) > l by omega)]; rfl
    refine fin op op' k oc l oc' _ _ w6 (((k1.then0 k4).then0 k5).then0 k6) ((hO.keep0 k5).keep0 k6) (hO'.keep0 k6) hkl (beats_pre b f g hkl) (by omega) fun i y hy => ?_
    have hil : i < l := by have := (List.getElem?_eq_some_iff.1 hy).1; rwa [beats_len] at this
    rw [beats_at b f g hil] at hy
    simp only [Option.some.injEq] at hy
    subst hy
    by_cases hik : i < k
    · have := pst_mono (f := f) (g := g) rb1 (show i + 1 ≤ k by omega)
      have := hK.1
      rw [decide_eq_true (show (i : Int) < k by omega), decide_eq_true (by omega)]
    · have := pst_mono (f := f) (g := g) rb1 (show k + 1 ≤ i + 1 by omega)
      have := hK.2
      rw [decide_eq_false (show ¬ (i : Int) < k by omega), decide_eq_false (by omega)]
  · refine cl_of ok21 (plan21_bad hf w3) fun e w4 ⟨he, k4⟩ => ⟨_, _, _, _, he, ?_⟩
    refine ld6 (hC.keep0 k4) ?_
    refine cl_of ok21 (plan21_bad hf w4) fun e w5 ⟨he, k5⟩ => ⟨_, _, _, _, he, ?_⟩
    have hC5 := (hC.keep0 k4).keep0 k5
    refine gd_t rfl (ld6 hC5 ?_)
    refine gd_t rfl (cl_of ok13 (formed13 b f g d p q w5) fun e w6 ⟨he, k6⟩ => ⟨_, he, ?_⟩)
    refine pif_f (by rw [hf]; rfl) ?_
    exact fin none none 0 0 0 0 [] [] w6 (((k1.then0 k4).then0 k5).then0 k6) (Vc.Own.nil _ _ _) (Vc.Own.nil _ _ _) (by omega) rfl (by omega) fun i y hy => by simp at hy
end Go.Proofs.Ytkpoagdhekimpaa.Pace
