/- Bump and Cool of a heat. -/
import Derived.Test.YtfifgopmegbifaaHeap2
set_option linter.unusedVariables false
set_option linter.unusedSimpArgs false
set_option maxRecDepth 100000
namespace Go.Proofs.Ytfifgopmegbifaa.Heat
open Go Go.Proofs.Ytfifgopmegbifaa.Vc Go.Proofs.Ytfifgopmegbifaa.T

def over (x : Nat) : Bool := (FloatKind.format .f64).order x most == some .gt
/-- the items behind a bump of v, the scores being sc -/
def bumped (sc : List Nat) (it pl : List Int) (v : Int) : List Int :=
  if 0 ≤ pl.getD (v - 1).toNat (-1) then upL (bfw sc) (it.getD (pl.getD (v - 1).toNat (-1)).toNat 0) it (pl.getD (v - 1).toNat (-1)).toNat else it
theorem bumped_len (sc : List Nat) (it pl : List Int) (v : Int) : (bumped sc it pl v).length = it.length := by
  unfold bumped; split
  · rw [upL_len]
  · rfl
section
variable {w : World} {h sb ib pb : Nat} {sc : List Nat} {step decay : Nat} {it rest pl : List Int}
theorem Heat.keep2 {w w1 w2 : World} {sc' : List Nat} {step' : Nat} {L : List Int} (k : Keep (HF h sb ib pb) w w1) (hh : Heat w1 h sb ib pb sc' step' decay rest L w2) : Heat w h sb ib pb sc' step' decay rest L w2 :=
  ⟨k.trans hh.1 fun _ _ h => h, hh.2⟩
theorem bump13 (hR : Rep w h sb ib pb sc step decay it rest pl) (hs : sc.length ≤ 1048576) (hi : it.length ≤ 1048576) (hf : FC sc.length it pl) {v : Int} (v1 : 1 ≤ v) (v2 : v ≤ sc.length) {y : Nat} {sc2 : List Nat} {step2 : Nat} {it2 : List Int}
    (hadd : (FloatKind.format .f64).add (sc.getD (v - 1).toNat 0) step = some y)
    (hlo : over y = false → sc2 = sc.set (v - 1).toNat y ∧ step2 = step ∧ it2 = bumped (sc.set (v - 1).toNat y) it pl v)
    (hhi : over y = true → scaled (sc.set (v - 1).toNat y) sc2 ∧ (FloatKind.format .f64).mul step small = some step2 ∧ it2 = againL (bfw sc2) (it.length / 2) (bumped (sc.set (v - 1).toNat y) it pl v)) :
    Calls Try.prog 13 #[.pointer (some ⟨h, 0, none⟩), I v] w fun e w' => e = .returned (I 0) ∧ Heat w h sb ib pb sc2 step2 decay rest it2 w' := by
  refine (V13_calls (some ⟨h, 0, none⟩) v w (fun r w' => r = I 0 ∧ Heat w h sb ib pb sc2 step2 decay rest it2 w') ?_).mono fun e w' ⟨v, he, hv, hk⟩ => ⟨by rw [he, hv], hk⟩
  unfold V13
  refine cl_of ok29 (own29 hR v) fun e w1 ⟨he, hw⟩ => ⟨_, he, ?_⟩
  subst hw
  have eo : (decide (1 ≤ v) && decide (v ≤ sc.length)) = true := by simp [v1, v2]
  rw [eo]
  refine pif_f rfl (nn_of ?_)
  have hl := hR.len
  have ew : IntKind.wrap .i64 (v - 1) = v - 1 := by rw [IntKind.wrap_i64]; omega
  simp only [add_mk, Nat.add_zero, Nat.reduceAdd, Nat.zero_add, ew]
  have hRd := hR.drew
  have kd : Keep (HF h sb ib pb) w1 w1.drew := (Keep.refl _ _).drew
  generalize w1.drew = w2 at *
  have hv : (v - 1).toNat < sc.length := by omega
  refine ldC_of (hRd.obj.cell 0) (ixA_of1 (by omega) (by omega) ?_)
  refine ldF_of (x := sc.getD (v - 1).toNat 0) (by rw [hRd.scores.cell, List.getElem?_map, List.getD_eq_getElem?_getD, List.getElem?_eq_getElem hv]; rfl) (nn_of ?_)
  refine ldF_of (hRd.obj.cell 1) ⟨_, hadd, ixA_of1 (by omega) (by omega) ?_⟩
  simp only [add_mk, Nat.add_zero]
  refine st_of hRd.scores (by rw [List.length_map]; exact hv) rfl fun w3 h3 k3 _ => ?_
  rw [← List.map_set] at h3
  have hR3 : Rep w3 h sb ib pb (sc.set (v - 1).toNat y) step decay it rest pl := by
    refine ⟨?_, h3, hRd.items.keep1 k3 (Ne.symm hR.si), hRd.places.keep1 k3 (Ne.symm hR.sp), by simpa using hR.len, hR.hs, hR.hi, hR.hp, hR.si, hR.sp, hR.ip⟩
    have := hRd.obj.keep1 k3 hR.hs
    simpa using this
  have k3' : Keep (HF h sb ib pb) w1 w3 := kd.thenS k3 (by simp [HF])
  have hlen : (sc.set (v - 1).toNat y).length = sc.length := by simp
  generalize hq : sc.set (v - 1).toNat y = sc1 at *
  have hf1 : FC sc1.length it pl := by rw [hlen]; exact hf
  have hvp : (v - 1).toNat < pl.length := by omega
  have hy : sc1.getD (v - 1).toNat 0 = y := by
    rw [← hq, List.getD_eq_getElem?_getD, List.getElem?_set, if_pos rfl, if_pos hv]; rfl
  -- the heap
  refine ⟨fun _ w4 => Heat w1 h sb ib pb sc1 step decay rest (bumped sc1 it pl v) w4, ?_, ?_⟩
  · refine nn_of ?_
    have hx : pl[(v - 1).toNat]? = some (pl.getD (v - 1).toNat (-1)) := by
      rw [List.getD_eq_getElem?_getD, List.getElem?_eq_getElem hvp]; rfl
    refine cl_of ok30 (has30 hR3 v1 (by omega) (by omega) hx) fun e w4 ⟨he, hw⟩ => ⟨_, he, ?_⟩
    subst hw
    unfold bumped
    by_cases hp : 0 ≤ pl.getD (v - 1).toNat (-1)
    · rw [if_pos hp]
      refine pif_t (by simpa using hp) (nn_of (nn_of ?_))
      have hRe := hR3.drew
      have ke := k3'.drew
      generalize w4.drew = w5 at *
      refine ldC_of (hRe.obj.cell 4) (ixA_of1 (by omega) (by omega) ?_)
      refine ldI_of (x := pl.getD (v - 1).toNat (-1)) (by rw [hRe.places.cell, List.getElem?_map, hx]; rfl) ?_
      -- v stands there
      have hin : ∃ i : Nat, it[i]? = some v := Classical.byContradiction fun hn => by
        have := hf.out v v1 v2 fun i hi => hn ⟨i, hi⟩
        rw [hx] at this
        injection this with this
        omega
      obtain ⟨i, hi'⟩ := hin
      have hii := (hf.at' i v hi').2.2
      rw [hx] at hii
      injection hii with hii
      have hlt := (List.getElem?_eq_some_iff.1 hi').1
      rw [hii, Int.toNat_natCast]
      refine cl_of ok31 (up31 hRe (by omega) hi hf1 hlt) fun e w6 ⟨he, hL⟩ => ⟨he, Heat.keep2 ke hL.heat⟩
    · rw [if_neg hp]
      refine pif_f (by simpa using hp) ?_
      exact ⟨k3', pl, hR3, hf1⟩
  · rintro ⟨⟩ w4 ⟨k4, pl4, hR4, hf4⟩
    refine ⟨fun _ w5 => Heat w1 h sb ib pb sc2 step2 decay rest it2 w5, ?_, fun _ w5 hw => ⟨by first | rfl | trivial, hw⟩⟩
    refine nn_of ?_
    refine ldC_of (hR4.obj.cell 0) (ixA_of1 (by omega) (by omega) ?_)
    refine ldF_of (x := y) (by rw [hR4.scores.cell, List.getElem?_map, ← hy, List.getD_eq_getElem?_getD, List.getElem?_eq_getElem (by omega)]; rfl) ?_
    have eo : ((FloatKind.format .f64).order y 6103021453049119613 == some .gt) = over y := rfl
    rw [eo]
    refine pif_of (fun hb => ?_) fun hb => ?_
    · obtain ⟨g1, g2, g3⟩ := hhi hb
      rw [g3]
      have hlb := bumped_len sc1 it pl v
      have := scale32 hR4 (by omega) (by omega) hf4 g1 g2
      rw [hlb] at this
      exact cl_of ok32 this fun e w5 ⟨he, hH⟩ => ⟨he, Heat.keep2 k4 hH⟩
    · obtain ⟨g1, g2, g3⟩ := hlo hb
      rw [g1, g2, g3]
      exact ⟨k4, pl4, hR4, hf4⟩
theorem bump_out (hR : Rep w h sb ib pb sc step decay it rest pl) {v : Int} (hv : ¬ (1 ≤ v ∧ v ≤ sc.length)) :
    Calls Try.prog 13 #[.pointer (some ⟨h, 0, none⟩), I v] w fun e w' => e = .returned (I 2) ∧ w' = w := by
  refine (V13_calls (some ⟨h, 0, none⟩) v w (fun r w' => r = I 2 ∧ w' = w) ?_).mono fun e w' ⟨v, he, hv, hk⟩ => ⟨by rw [he, hv], hk⟩
  unfold V13
  refine cl_of ok29 (own29 hR v) fun e w1 ⟨he, hw⟩ => ⟨_, he, ?_⟩
  subst hw
  have eo : (decide (1 ≤ v) && decide (v ≤ sc.length)) = false := by
    rw [Bool.and_eq_false_iff, decide_eq_false_iff_not, decide_eq_false_iff_not]; omega
  rw [eo]
  exact pif_t rfl ⟨rfl, rfl⟩
theorem cool14 (hR : Rep w h sb ib pb sc step decay it rest pl) (hs : sc.length ≤ 1048576) (hi : it.length ≤ 1048576) (hf : FC sc.length it pl) {y : Nat} {sc2 : List Nat} {step2 : Nat} {it2 : List Int}
    (hdiv : (FloatKind.format .f64).div step decay = some y) (hlo : over y = false → sc2 = sc ∧ step2 = y ∧ it2 = it)
    (hhi : over y = true → scaled sc sc2 ∧ (FloatKind.format .f64).mul y small = some step2 ∧ it2 = againL (bfw sc2) (it.length / 2) it) :
    Calls Try.prog 14 #[.pointer (some ⟨h, 0, none⟩)] w fun e w' => e = .returned (.tuple #[]) ∧ Heat w h sb ib pb sc2 step2 decay rest it2 w' := by
  refine (V14_calls (some ⟨h, 0, none⟩) w (Unit' (Heat w h sb ib pb sc2 step2 decay rest it2)) ?_).mono fun e w' ⟨v, he, hv, hk⟩ => ⟨by rw [he, hv], hk⟩
  unfold V14
  have hRd := hR.drew
  have kd : Keep (HF h sb ib pb) w w.drew := (Keep.refl _ _).drew
  generalize w.drew = w2 at *
  refine nn_of ?_
  simp only [add_mk, Nat.add_zero, Nat.reduceAdd, Nat.zero_add]
  refine ldF_of (hRd.obj.cell 1) (nn_of (ldF_of (hRd.obj.cell 2) ⟨_, hdiv, nn_of ?_⟩))
  refine st_of hRd.obj (by simp) rfl fun w3 h3 k3 _ => nn_of ?_
  have hR3 : Rep w3 h sb ib pb sc y decay it rest pl :=
    ⟨h3, hRd.scores.keep1 k3 (Ne.symm hR.hs), hRd.items.keep1 k3 (Ne.symm hR.hi), hRd.places.keep1 k3 (Ne.symm hR.hp), hRd.len, hR.hs, hR.hi, hR.hp, hR.si, hR.sp, hR.ip⟩
  have k3' : Keep (HF h sb ib pb) w w3 := kd.thenS k3 (by simp [HF])
  refine ldF_of (h3.cell 1) ?_
  have eo : ((FloatKind.format .f64).order y 6103021453049119613 == some .gt) = over y := rfl
  rw [eo]
  refine pif_of (fun hb => ?_) fun hb => ?_
  · obtain ⟨g1, g2, g3⟩ := hhi hb
    rw [g3]
    exact cl_of ok32 (scale32 hR3 hs hi hf g1 g2) fun e w5 ⟨he, hH⟩ => ⟨he, rfl, Heat.keep2 k3' hH⟩
  · obtain ⟨g1, g2, g3⟩ := hlo hb
    rw [g1, g2, g3]
    exact ⟨rfl, k3', pl, hR3, hf⟩
end

theorem pick12 (n k : Int) (w : World) (hn : -9223372036854775808 ≤ n ∧ n ≤ 9223372036854775807) (hk : 0 < k ∧ k ≤ 1073741824) :
    Calls Try.prog 12 #[I n, I k] w fun e w' => e = .returned (I (n % k)) ∧ w' = w := by
  refine (V12_calls n k w (fun r w' => r = I (n % k) ∧ w' = w) ?_).mono fun e w' ⟨v, he, hv, hk⟩ => ⟨by rw [he, hv], hk⟩
  unfold V12
  refine ⟨by omega, jn_of ?_⟩
  have h1 := Int.emod_nonneg n (show k ≠ 0 by omega)
  have h2 := Int.emod_lt_of_pos n hk.1
  have ht : Int.tmod n k = if 0 ≤ n ∨ n % k = 0 then n % k else n % k - k := by
    rw [Int.tmod_eq_emod]
    by_cases hc : 0 ≤ n ∨ k ∣ n
    · rw [if_pos hc, if_pos]
      · omega
      · rcases hc with hc | hc
        · exact Or.inl hc
        · exact Or.inr (Int.emod_eq_zero_of_dvd hc)
    · rw [if_neg hc, if_neg]
      · omega
      · intro h
        rcases h with h | h
        · exact hc (Or.inl h)
        · exact hc (Or.inr (Int.dvd_of_emod_eq_zero h))
  generalize hr : n % k = r at *
  refine pif_of (fun hlt => ?_) fun hge => ?_
  · have hlt : Int.tmod n k < 0 := by simpa using hlt
    rw [ht] at hlt ⊢
    split at hlt
    · omega
    · rename_i hc
      rw [if_neg hc]
      have : IntKind.wrap .i64 (r - k + k) = r := by rw [IntKind.wrap_i64]; omega
      rw [this]
      exact ⟨rfl, rfl⟩
  · have hge : ¬ Int.tmod n k < 0 := by simpa using hge
    rw [ht] at hge ⊢
    split at hge
    · rename_i hc
      rw [if_pos hc]
      exact ⟨rfl, rfl⟩
    · omega
end Go.Proofs.Ytfifgopmegbifaa.Heat
