/- The law's step and its look at the whole. -/
import Derived.Test.YtioaaeianjgaoaaStep
set_option linter.unusedVariables false
set_option linter.unusedSimpArgs false
set_option maxRecDepth 100000
namespace Go.Proofs.Ytioaaeianjgaoaa.Trail
open Go Go.Proofs.Ytioaaeianjgaoaa.Vc Go.Proofs.Ytioaaeianjgaoaa.T

theorem pick23 (n k : Int) (w : World) (hn : -9223372036854775808 ≤ n ∧ n ≤ 9223372036854775807) (hk : 0 < k ∧ k ≤ 1073741824) :
    Calls Try.prog 23 #[I n, I k] w fun e w' => e = .returned (I (n % k)) ∧ w' = w := by
  refine (V23_calls n k w (fun r w' => r = I (n % k) ∧ w' = w) ?_).mono fun e w' ⟨v, he, hv, hk⟩ => ⟨by rw [he, hv], hk⟩
  unfold V23
  refine ⟨by omega, jn_of ?_⟩
  have h1 := Int.emod_nonneg n (show k ≠ 0 by omega)
  have h2 := Int.emod_lt_of_pos n hk.1
  have ht : Int.tmod n k = if 0 ≤ n ∨ n % k = 0 then n % k else n % k - k := by
    rw [Int.tmod_eq_emod]
    by_cases hc : 0 ≤ n ∨ k ∣ n
    · rw [if_pos hc, if_pos]
      · omega
      · rcases hc with hc | hc
        · exact Or.inl hc
        · exact Or.inr (Int.emod_eq_zero_of_dvd hc)
    · rw [if_neg hc, if_neg]
      · omega
      · intro h
        rcases h with h | h
        · exact hc (Or.inl h)
        · exact hc (Or.inr (Int.dvd_of_emod_eq_zero h))
  generalize hr : n % k = r at *
  refine pif_of (fun hlt => ?_) fun hge => ?_
  · have hlt : Int.tmod n k < 0 := by simpa using hlt
    rw [ht] at hlt ⊢
    split at hlt
    · omega
    · rename_i hc
      rw [if_neg hc]
      have : IntKind.wrap .i64 (r - k + k) = r := by rw [IntKind.wrap_i64]; omega
      rw [this]
      exact ⟨rfl, rfl⟩
  · have hge : ¬ Int.tmod n k < 0 := by simpa using hge
    rw [ht] at hge ⊢
    split at hge
    · rename_i hc
      rw [if_pos hc]
      exact ⟨rfl, rfl⟩
    · omega

def i64 (x : Int) : Prop := -9223372036854775808 ≤ x ∧ x ≤ 9223372036854775807
def St36 (n : Nat) (w : World) (T : TI) (M : MI) (v : Value) (w' : World) : Prop := v = .bool true ∧ Next n w T M w'
section
variable {n : Nat} {w : World} {T : TI} {M : MI} {R : List E} {L : List Int}
theorem step36 (h : B2 n w T M R L) {on kd x y : Int} {p : Option Addr} {nc c : Nat} {cs : List Int} (hkd : i64 kd) (hx : i64 x) (hy : i64 y) (hc : SlL w p nc cs) :
    Calls Try.prog 36 #[Pt T.t, Pt M.m, .agg #[I on, I kd, I x, I y, .slice p nc c]] w fun e w' => e = .returned (.bool true) ∧ Next n w T M w' := by
  refine (V36_calls (some ⟨T.t, 0, none⟩) (some ⟨M.m, 0, none⟩) on kd x y p nc c w (St36 n w T M) ?_).mono fun e w' ⟨v, he, hv, hk⟩ => ⟨by rw [he, hv], hk⟩
  unfold V36
  refine alc_at fun b w1 hb hB k1 => ?_
  simp only [add_mk, Nat.zero_add]
  refine ldI_of (hB.cell 1) ?_
  refine cl_of ok23 (pick23 kd 10 w1 hkd (by omega)) fun e w2 ⟨he, hw⟩ => ⟨_, he, ?_⟩
  subst hw
  have h1 := h.keep0 k1
  have hc1 := hc.keep0 k1
  have hlt := h.lt
  have z1 := k1.size
  -- a step that began behind the copy of the call
  have nx : ∀ {w3 : World}, Next n w2 T M w3 → Next n w T M w3 := fun ⟨k, T', M', R', L', a, b, cc, d⟩ => ⟨(k1.none).trans k fun _ _ hh => hh, T', M', R', L', a, b, fun i hi => by
    rcases cc i hi with hh | hh
    · exact Or.inl hh
    · exact Or.inr (by omega), d⟩
  have same : ∀ {w3 : World}, Keep None w2 w3 → Next n w T M w3 := fun k => Next.same h (k1.then0 k)
  have hd := h1.drew
  have kd' : Keep None w2 w2.drew := (Keep.refl _ _).drew
  have hBd := hB.drew
  have nxd : ∀ {w3 : World}, Next n w2.drew T M w3 → Next n w T M w3 := fun ⟨k, rest⟩ => nx ⟨kd'.none.trans k fun _ _ hh => hh, rest⟩
  have bF : ¬ FF T M b := fun hh => by have := hlt b hh; omega
  generalize kd % 10 = kk
  refine pif_of (fun _ => ?_) fun _ => ?_
  · refine ldI_of (hBd.cell 2) (ldI_of (hBd.cell 2) ?_)
    refine cl_of ok18 (hd.tr.decide x hx.1) fun e w3 ⟨he, hl⟩ => ⟨_, he, ?_⟩
    have hB3 := hBd.keep hl.1 fun hh => bF (Or.inl hh)
    refine ⟨ldI_of (hB3.cell 2) rfl, ?_⟩
    have hM3 := hd.mr.keep hl.1 fun i hi hh => hd.dis i hh hi
    have hsm := h.tr.small
    refine cl_of ok28 (decide28 hM3 x hx h.rlen h.lit (by omega)) fun e w4 ⟨he, hl2⟩ => ⟨_, he, ?_⟩
    refine ⟨by simp, nxd (Next.two hd hl ?_)⟩
    have e1 : (if freeA n R x = 0 then (L.length : Int) + 1 else (L.length : Int)) = ((if freeA n R x = 0 then L ++ [(R.length : Int)] else L).length : Int) := by
      split
      · rw [List.length_append]; simp
      · rfl
    rw [← e1]
    exact hl2
  refine pif_of (fun _ => ?_) fun _ => ?_
  · refine ldI_of (hBd.cell 2) (ldI_of (hBd.cell 3) (ldI_of (hBd.cell 2) (ldI_of (hBd.cell 3) ?_)))
    refine cl_of ok26 (hd.tr.imply x y hx.1) fun e w3 ⟨he, hl⟩ => ⟨_, he, ?_⟩
    have hB3 := hBd.keep hl.1 fun hh => bF (Or.inl hh)
    refine ⟨ldI_of (hB3.cell 3) rfl, ldI_of (hB3.cell 2) rfl, ?_⟩
    have hM3 := hd.mr.keep hl.1 fun i hi hh => hd.dis i hh hi
    refine cl_of ok29 (imply29 hM3 x y hx h.rlen h.lit) fun e w4 ⟨he, hl2⟩ => ⟨_, he, ?_⟩
    exact ⟨by simp, nxd (Next.two hd hl hl2)⟩
  refine pif_of (fun _ => ?_) fun _ => ?_
  · refine ldI_of (hB.cell 2) ?_
    by_cases hr : 0 ≤ x ∧ x ≤ L.length
    · refine cl_of ok12 (h1.tr.back hr.1 hr.2) fun e w3 ⟨p1, c1, he, hO1, hf1, k3, hT3⟩ => ⟨_, _, _, _, he, ?_⟩
      have hB3 := hB.keep k3 fun hh => bF (Or.inl hh)
      refine ldI_of (hB3.cell 2) ?_
      have hM3 := h1.mr.keep k3 fun i hi hh => h1.dis i hh hi
      have z3 := k3.size
      refine cl_of ok30 (back30 hM3 hr.1 hr.2 h.rlen) fun e w4 ⟨v, he, p2, c2, hv, hO2, hf2, k4, M', m4, hM4, hd4⟩ => ⟨p2, _, c2, _, he.trans (congrArg Ending.returned hv), ?_⟩
      have hm1 : ∀ i, M.F i → i < w2.heap.size := fun i hi => h1.mr.lt i hi
      have el : (lits (above x R)).reverse.length = (above x R).length := by rw [List.length_reverse, lits_len]
      have hO1' := hO1.keep k4 fun i hi hh => by have := hf1 i hi; have := hm1 i hh; omega
      have hwf : ∀ y ∈ (lits (above x R)).reverse, (Lit.int .i64 y).wf = true := fun y hy => by
        rw [List.mem_reverse] at hy
        obtain ⟨e, he, rfl⟩ := List.mem_map.1 hy
        unfold above at he
        have := h.lit e (List.mem_filter.1 he).1
        exact wf_small (by omega)
      refine gd_t (by simp) (cl_of ok19 (same19 (Own.slL hO1' hwf) (Own.slL hO2 hwf)) fun e w5 ⟨he5, k5⟩ => ⟨_, he5, ?_⟩)
      rw [decide_eq_true (rfl : (lits (above x R)).reverse = (lits (above x R)).reverse)]
      refine ⟨by simp, ?_⟩
      -- both behind
      have eL : ((L.take x.toNat).length : Int) = x := by rw [List.length_take]; omega
      have hN : Next n w2 T M w4 := by
        refine Next.two h1 ⟨k3, T, Moved.refl _ _, hT3⟩ ⟨k4, M', m4, ?_⟩
        rw [eL]; exact hM4
      obtain ⟨k, T', M2, R', L', a, b2, cc, d⟩ := nx hN
      exact ⟨k.then0 k5, T', M2, R', L', a, b2, cc, d.keep0 k5⟩
    · have ho : x < 0 ∨ (L.length : Int) < x := by omega
      refine cl_of ok12 (h1.tr.back_out ho) fun e w3 ⟨he, hw⟩ => ⟨_, _, _, _, he, ?_⟩
      subst hw
      refine ldI_of (hB.cell 2) ?_
      refine cl_of ok30 (mback_out h1.mr ho) fun e w4 ⟨he, hw⟩ => ⟨_, _, _, _, he, ?_⟩
      subst hw
      have sn : SlL w4 none 0 [] := ⟨rfl, by omega, fun i x hx => by simp at hx, fun x hx => by cases hx⟩
      refine gd_t rfl (cl_of ok19 (same19 sn sn) fun e w5 ⟨he5, k5⟩ => ⟨_, he5, ?_⟩)
      exact ⟨rfl, same k5⟩
  refine pif_of (fun _ => ?_) fun _ => ?_
  · refine ldI_of (hBd.cell 2) (ldI_of (hBd.cell 2) ?_)
    refine cl_of ok14 (hd.tr.value x hx.1) fun e w3 ⟨he, k3⟩ => ⟨_, he, ?_⟩
    refine ⟨ldI_of ((hBd.keep0 k3).cell 2) rfl, ?_⟩
    refine cl_of ok49 (value49 (hd.mr.keep0 k3) x hx h.rlen h.lit) fun e w4 ⟨he, hw⟩ => ⟨_, he, ?_⟩
    subst hw
    exact ⟨by simp, same (kd'.then0 k3)⟩
  refine pif_of (fun _ => ?_) fun _ => ?_
  · refine ldI_of (hBd.cell 2) (ldI_of (hBd.cell 2) ?_)
    refine cl_of ok15 (hd.tr.levelOf x hx.1) fun e w3 ⟨he, k3⟩ => ⟨_, he, ?_⟩
    refine ⟨ldI_of ((hBd.keep0 k3).cell 2) rfl, ?_⟩
    refine cl_of ok50 (levelOf50 (hd.mr.keep0 k3) x hx h.rlen h.lit) fun e w4 ⟨he, hw⟩ => ⟨_, he, ?_⟩
    subst hw
    exact ⟨by simp, same (kd'.then0 k3)⟩
  refine pif_of (fun _ => ?_) fun _ => ?_
  · refine ldI_of (hBd.cell 2) (ldI_of (hBd.cell 2) ?_)
    refine cl_of ok16 (hd.tr.reason x hx.1) fun e w3 ⟨he, k3⟩ => ⟨_, he, ?_⟩
    refine ⟨ldI_of ((hBd.keep0 k3).cell 2) rfl, ?_⟩
    refine cl_of ok51 (reason51 (hd.mr.keep0 k3) x hx h.rlen h.lit) fun e w4 ⟨he, hw⟩ => ⟨_, he, ?_⟩
    subst hw
    exact ⟨by simp, same (kd'.then0 k3)⟩
  refine pif_of (fun _ => ?_) fun _ => ?_
  · refine ldC_of (hB.cell 4) ?_
    refine cl_of ok24 (h1.tr.look hc1) fun e w3 ⟨v, he, hv, k3⟩ => ⟨_, _, he.trans (congrArg Ending.returned hv), ?_⟩
    refine ldC_of ((hB.keep0 k3).cell 4) ?_
    refine cl_of ok44 (look44 (h1.mr.keep0 k3) h.rlen h.lit (hc1.keep0 k3)) fun e w4 ⟨v, he, hv, k4⟩ => ⟨_, _, he.trans (congrArg Ending.returned hv), ?_⟩
    exact ⟨by simp, same (k3.then0 k4)⟩
  refine pif_of (fun _ => ?_) fun _ => ?_
  · exact lits_same (K := fun b w' => St36 n w T M (.bool b) w') h1 fun w3 k3 => ⟨rfl, same k3⟩
  refine pif_of (fun _ => ?_) fun _ => ?_
  · exact marks_same (K := fun b w' => St36 n w T M (.bool b) w') h1 fun w3 k3 => ⟨rfl, same k3⟩
  · refine cl_of ok13 h1.tr.level fun e w3 ⟨he, hw⟩ => ⟨_, he, ?_⟩
    subst hw
    refine cl_of ok48 (level48 h1.mr) fun e w4 ⟨he, hw⟩ => ⟨_, he, ?_⟩
    subst hw
    exact ⟨by simp, same (Keep.refl _ _)⟩
end
end Go.Proofs.Ytioaaeianjgaoaa.Trail
