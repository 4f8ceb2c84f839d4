/- down, again, scale, Bump and Cool of a heat. -/
import Derived.Test.YtfifgopmegbifaaHeap
set_option linter.unusedVariables false
set_option linter.unusedSimpArgs false
set_option maxRecDepth 100000
namespace Go.Proofs.Ytfifgopmegbifaa.Heat
open Go Go.Proofs.Ytfifgopmegbifaa.Vc Go.Proofs.Ytfifgopmegbifaa.T

theorem upL_len (bf : Int → Int → Bool) (x : Int) : ∀ (a : Nat) (L : List Int), (upL bf x L a).length = L.length := by
  intro a
  induction a using Nat.strongRecOn with
  | ind a ih =>
    intro L
    rw [upL]
    split
    · simp
    · split
      · rw [ih _ (by omega)]; simp
      · simp
theorem lower_or (bf : Int → Int → Bool) (L : List Int) (a : Nat) : (lower bf L a = 2 * a + 2 ∧ 2 * a + 2 < L.length) ∨ lower bf L a = 2 * a + 1 := by
  unfold lower; split
  · exact Or.inl ⟨rfl, by omega⟩
  · exact Or.inr rfl
theorem downL_len (bf : Int → Int → Bool) (x : Int) : ∀ (n : Nat) (a : Nat) (L : List Int), L.length - a = n → (downL bf x L a).length = L.length := by
  intro n
  induction n using Nat.strongRecOn with
  | ind n ih =>
    intro a L hn
    rw [downL]
    split
    · split
      · have := lower_or bf L a
        rw [ih (L.length - lower bf L a) (by omega) _ _ (by simp)]; simp
      · simp
    · simp

section
variable {w : World} {h sb ib pb : Nat} {sc : List Nat} {step decay : Nat} {it rest pl : List Int}
theorem down51 (hR : Rep w h sb ib pb sc step decay it rest pl) (hs : sc.length ≤ 1048576) (hi : it.length ≤ 1048576) (hf : FC sc.length it pl) {a : Nat} (ha : a < it.length) :
    Calls Try.prog 51 #[.pointer (some ⟨h, 3, none⟩), I a] w fun e w' => e = .returned (.tuple #[]) ∧ Laid w h sb ib pb sc step decay rest (downL (bfw sc) (it.getD a 0) it a) w' := by
  refine (V51_calls (some ⟨h, 3, none⟩) a w (Unit' (Laid w h sb ib pb sc step decay rest (downL (bfw sc) (it.getD a 0) it a))) ?_).mono fun e w' ⟨v, he, hv, hk⟩ => ⟨by rw [he, hv], hk⟩
  unfold V51
  generalize hx : it.getD a 0 = x
  refine nn_of ?_
  simp only [add_mk, Nat.add_zero, Nat.reduceAdd]
  refine ldC_of (hR.obj.cell 3) (ixA_of1 (by omega) (by omega) (ldI_of (x := x) (by rw [Int.toNat_natCast, hR.item ha, hx]) ?_))
  have hp0 : PC sc.length it a x pl := PC.start (by rw [getD_int ha, hx]) hf
  have fin : ∀ (w2 : World) (L pl2 : List Int) (b : Nat), Keep (IP ib pb) w w2 → Rep w2 h sb ib pb sc step decay L rest pl2 → PC sc.length L b x pl2 → L.set b x = downL (bfw sc) x it a →
      cl Try.prog 28 [.pointer (some (⟨h, 3, none⟩ : Addr)), .int .i64 (b : Int), .int .i64 x] w2 fun e30 w5 => e30 = Ending.returned (.tuple #[]) ∧ Unit' (Laid w h sb ib pb sc step decay rest (downL (bfw sc) x it a)) (.tuple #[]) w5 := by
    intro w2 L pl2 b k2 hR2 hp2 hu
    refine cl_of ok28 (hR2.lay hs hp2.lt hp2.x1 hp2.x2) fun e w5 ⟨he, k5, hR5⟩ => ⟨he, rfl, ?_⟩
    refine ⟨k2.trans k5 fun i _ h => h, _, hu ▸ hR5, hu ▸ hp2.fc⟩
  refine jn_of ?_
  refine lp_of (fun s w2 => ∃ (b : Nat) (L pl2 : List Int), s.1 = b ∧ L.length = it.length ∧ Keep (IP ib pb) w w2 ∧ Rep w2 h sb ib pb sc step decay L rest pl2 ∧ PC sc.length L b x pl2 ∧ downL (bfw sc) x L b = downL (bfw sc) x it a)
    (fun s _ => (it.length - s.1).toNat) ⟨a, it, pl, rfl, rfl, Keep.refl _ _, hR, hp0, rfl⟩ ?_
  rintro ⟨b', ⟨⟩⟩ w2 ⟨b, L, pl2, rfl, hL, k2, hR2, hp2, hu⟩
  simp only []
  have hb := hp2.lt
  have e1 : IntKind.wrap .i64 (2 * (b : Int)) = ((2 * b : Nat) : Int) := by rw [IntKind.wrap_i64]; omega
  have e2 : IntKind.wrap .i64 (((2 * b : Nat) : Int) + 1) = ((2 * b + 1 : Nat) : Int) := by rw [IntKind.wrap_i64]; omega
  have e3 : IntKind.wrap .i64 (((2 * b + 1 : Nat) : Int) + 1) = ((2 * b + 2 : Nat) : Int) := by rw [IntKind.wrap_i64]; omega
  simp only [e1, e2, e3]
  refine nn_of ?_
  refine ldC_of (hR2.obj.cell 3) ?_
  rw [downL] at hu
  refine pif_of (fun hge => ?_) fun hlt => ?_
  · have hge : ¬ 2 * b + 1 < L.length := by simp at hge; omega
    rw [dif_neg hge] at hu
    exact fin w2 L pl2 b k2 hR2 hp2 hu
  have hlt : 2 * b + 1 < L.length := by simp at hlt; omega
  rw [dif_pos hlt] at hu
  have hlo := lower_or (bfw sc) L b
  have rng : ∀ {i : Nat}, i < L.length → i ≠ b → 1 ≤ L.getD i 0 ∧ L.getD i 0 ≤ sc.length := fun h1 h2 => by
    have := hp2.step h2 (getD_int h1)
    exact ⟨this.1, this.2.1⟩
  refine ⟨fun s w3 => s.1 = ((lower (bfw sc) L b : Nat) : Int) ∧ Keep (IP ib pb) w w3 ∧ Rep w3 h sb ib pb sc step decay L rest pl2, ?_, ?_⟩
  · refine nn_of ?_
    have hRd := hR2.drew
    refine ldC_of (hRd.obj.cell 3) ?_
    by_cases hc : 2 * b + 2 < L.length
    · have hc' : decide (((2 * b + 2 : Nat) : Int) < (L.length : Int)) = true := by simp; omega
      have r2 := rng hc (by omega)
      have r1 := rng hlt (by omega)
      refine gd_t hc' (nn_of (gd_t hc' ?_))
      simp only [add_mk, Nat.reduceAdd, Nat.add_zero]
      refine ldV_of (hRd.obj.cell 5) (gd_t hc' (nn_of (gd_t hc' ?_)))
      refine ldC_of (hRd.obj.cell 3) (gd_t hc' (ixA_of1 (by omega) (by show (_ : Int) < ((L.length : Nat) : Int); omega) (gd_t hc' (ldI_of (x := L.getD (2 * b + 2) 0) (by rw [Int.toNat_natCast]; exact hRd.item hc) ?_))))
      refine gd_t hc' (nn_of (gd_t hc' ?_))
      refine ldC_of (hRd.obj.cell 3) (gd_t hc' (ixA_of1 (by omega) (by show (_ : Int) < ((L.length : Nat) : Int); omega) (gd_t hc' (ldI_of (x := L.getD (2 * b + 1) 0) (by rw [Int.toNat_natCast]; exact hRd.item hlt) ?_))))
      refine gd_t hc' ?_
      refine clF_of (cl_of ok27 (warmer27 hRd hs r2.1 r2.2 r1.1 r1.2) fun e w4 ⟨he, hw⟩ => ⟨_, he, ?_⟩)
      have hR4 : Rep w4 h sb ib pb sc step decay L rest pl2 := by rw [hw]; exact hRd.drew
      have k4 : Keep (IP ib pb) w w4 := by rw [hw]; exact k2.drew.drew
      rw [hc']
      rcases Bool.eq_false_or_eq_true (bfw sc (L.getD (2 * b + 2) 0) (L.getD (2 * b + 1) 0)) with hq | hq
      · rw [hq]
        refine pif_t rfl ⟨?_, k4, hR4⟩
        have : lower (bfw sc) L b = 2 * b + 2 := by unfold lower; rw [if_pos ⟨hc, hq⟩]
        rw [this]
      · rw [hq]
        refine pif_f rfl ⟨?_, k4, hR4⟩
        have : lower (bfw sc) L b = 2 * b + 1 := by unfold lower; rw [if_neg (by rw [hq]; simp)]
        rw [this]
    · have hc' : decide (((2 * b + 2 : Nat) : Int) < (L.length : Int)) = false := by simp; omega
      refine gd_f hc' (gd_f hc' (gd_f hc' (gd_f hc' (gd_f hc' (gd_f hc' (gd_f hc' (gd_f hc' (gd_f hc' (gd_f hc' (gd_f hc' ?_))))))))))
      rw [hc']
      refine pif_f rfl ⟨?_, k2.drew, hRd⟩
      have : lower (bfw sc) L b = 2 * b + 1 := by unfold lower; rw [if_neg (fun h => hc h.1)]
      rw [this]
  · rintro ⟨c', ⟨⟩⟩ w3 ⟨rfl, k3, hR3⟩
    simp only []
    generalize hcc : lower (bfw sc) L b = c at *
    have hcl : c < L.length := by omega
    have hcb : c ≠ b := by omega
    have hRd := hR3.drew
    refine nn_of ?_
    simp only [add_mk, Nat.reduceAdd, Nat.add_zero]
    refine ldV_of (hRd.obj.cell 5) (nn_of ?_)
    refine ldC_of (hRd.obj.cell 3) (ixA_of1 (by omega) (by omega) (ldI_of (x := L.getD c 0) (by rw [Int.toNat_natCast]; exact hRd.item hcl) ?_))
    obtain ⟨y1, y2, hp3⟩ := hp2.step hcb (getD_int hcl)
    refine clF_of (cl_of ok27 (warmer27 hRd hs y1 y2 hp2.x1 hp2.x2) fun e w6 ⟨he, hw⟩ => ⟨_, he, ?_⟩)
    have hR6 : Rep w6 h sb ib pb sc step decay L rest pl2 := by rw [hw]; exact hRd.drew
    have k6 : Keep (IP ib pb) w w6 := by rw [hw]; exact k3.drew.drew
    rcases Bool.eq_false_or_eq_true (bfw sc (L.getD c 0) x) with hq | hq
    · rw [hq, if_pos rfl] at hu
      rw [hq]
      refine pif_f rfl (nn_of ?_)
      refine ldC_of (hR6.obj.cell 3) (ixA_of1 (by omega) (by omega) (ldI_of (x := L.getD c 0) (by rw [Int.toNat_natCast]; exact hR6.item hcl) ?_))
      refine cl_of ok28 (hR6.lay hs hp2.lt y1 y2) fun e w7 ⟨he, k7, hR7⟩ => ⟨he, ⟨_, _, _, rfl, by simpa using hL, k6.trans k7 fun i _ h => h, hR7, hp3, hu⟩, by omega⟩
    · rw [hq, if_neg (by simp)] at hu
      rw [hq]
      exact pif_t rfl (fin w6 L pl2 b k6 hR6 hp2 hu)

/-- down from the k-th place on, to the first -/
def againL (bf : Int → Int → Bool) : Nat → List Int → List Int
  | 0, L => L
  | k + 1, L => againL bf k (downL bf (L.getD k 0) L k)
theorem again46 (hR : Rep w h sb ib pb sc step decay it rest pl) (hs : sc.length ≤ 1048576) (hi : it.length ≤ 1048576) (hf : FC sc.length it pl) :
    Calls Try.prog 46 #[.pointer (some ⟨h, 3, none⟩)] w fun e w' => e = .returned (.tuple #[]) ∧ Laid w h sb ib pb sc step decay rest (againL (bfw sc) (it.length / 2) it) w' := by
  refine (V46_calls (some ⟨h, 3, none⟩) w (Unit' (Laid w h sb ib pb sc step decay rest (againL (bfw sc) (it.length / 2) it))) ?_).mono fun e w' ⟨v, he, hv, hk⟩ => ⟨by rw [he, hv], hk⟩
  unfold V46
  refine nn_of ?_
  simp only [add_mk, Nat.add_zero, Nat.reduceAdd]
  refine ldC_of (hR.obj.cell 3) ?_
  have e1 : IntKind.wrap .i64 (IntKind.wrap .i64 (Int.tdiv (it.length : Int) 2) - 1) = ((it.length / 2 : Nat) : Int) - 1 := by
    have e0 : IntKind.wrap .i64 (Int.tdiv (it.length : Int) 2) = ((it.length / 2 : Nat) : Int) := by
      rw [Int.tdiv_eq_ediv_of_nonneg (by omega), IntKind.wrap_i64]; omega
    rw [e0, IntKind.wrap_i64]; omega
  rw [e1]
  refine lp_of (fun s w2 => ∃ (k : Nat) (L pl2 : List Int), s.1 = (k : Int) - 1 ∧ k ≤ it.length / 2 ∧ L.length = it.length ∧ Keep (IP ib pb) w w2 ∧ Rep w2 h sb ib pb sc step decay L rest pl2 ∧ FC sc.length L pl2 ∧ againL (bfw sc) k L = againL (bfw sc) (it.length / 2) it)
    (fun s _ => (s.1 + 1).toNat) ⟨_, it, pl, rfl, Nat.le_refl _, rfl, Keep.refl _ _, hR, hf, rfl⟩ ?_
  rintro ⟨b', ⟨⟩⟩ w2 ⟨k, L, pl2, rfl, hk, hL, k2, hR2, hf2, hu⟩
  simp only []
  refine pif_of (fun hge => ?_) fun hlt => ?_
  · have hge : 1 ≤ k := by simp at hge; omega
    obtain ⟨j, rfl⟩ : ∃ j, k = j + 1 := ⟨k - 1, by omega⟩
    have e2 : (((j + 1 : Nat) : Int) - 1) = (j : Int) := by omega
    rw [e2]
    have e3 : IntKind.wrap .i64 ((j : Int) - 1) = (j : Int) - 1 := by rw [IntKind.wrap_i64]; omega
    rw [e3]
    refine cl_of ok51 (down51 hR2 hs (by omega) hf2 (a := j) (by omega)) fun e w3 ⟨he, k3, pl3, hR3, hf3⟩ => ⟨he, ⟨j, _, pl3, rfl, by omega, ?_, k2.trans k3 fun i _ h => h, hR3, hf3, ?_⟩, by omega⟩
    · rw [downL_len _ _ _ _ _ rfl]; exact hL
    · exact hu
  · have hk0 : k = 0 := by simp at hlt; omega
    subst hk0
    refine ⟨rfl, k2, pl2, ?_, ?_⟩
    · rw [← hu]; exact hR2
    · rw [← hu]; exact hf2

theorem againL_len (bf : Int → Int → Bool) : ∀ (k : Nat) (L : List Int), (againL bf k L).length = L.length := by
  intro k
  induction k with
  | zero => intro L; rfl
  | succ k ih => intro L; rw [againL, ih, downL_len _ _ _ _ _ rfl]
def small : Nat := 3110860544497550640
def most : Nat := 6103021453049119613
/-- all scores times the small number -/
def scaled : List Nat → List Nat → Prop
  | [], [] => True
  | x :: xs, y :: ys => (FloatKind.format .f64).mul x small = some y ∧ scaled xs ys
  | _, _ => False
theorem scaled_get : ∀ {xs ys : List Nat}, scaled xs ys → ys.length = xs.length ∧ ∀ i, i < xs.length → (FloatKind.format .f64).mul (xs.getD i 0) small = some (ys.getD i 0) := by
  intro xs
  induction xs with
  | nil => intro ys h; cases ys <;> simp_all [scaled]
  | cons x xs ih =>
    intro ys h
    cases ys with
    | nil => exact h.elim
    | cons y ys =>
      obtain ⟨h1, h2⟩ := h
      obtain ⟨h3, h4⟩ := ih h2
      refine ⟨by simp [h3], fun i hi => ?_⟩
      cases i with
      | zero => exact h1
      | succ i => exact h4 i (by simpa using hi)
def HF (h sb ib pb : Nat) (i : Nat) : Prop := i = h ∨ i = sb ∨ i = ib ∨ i = pb
def Heat (w : World) (h sb ib pb : Nat) (sc : List Nat) (step decay : Nat) (rest L : List Int) (w' : World) : Prop :=
  Keep (HF h sb ib pb) w w' ∧ ∃ pl', Rep w' h sb ib pb sc step decay L rest pl' ∧ FC sc.length L pl'
theorem scale32 (hR : Rep w h sb ib pb sc step decay it rest pl) (hs : sc.length ≤ 1048576) (hi : it.length ≤ 1048576) (hf : FC sc.length it pl) {sc' : List Nat} {step' : Nat}
    (h1 : scaled sc sc') (h2 : (FloatKind.format .f64).mul step small = some step') :
    Calls Try.prog 32 #[.pointer (some ⟨h, 0, none⟩)] w fun e w' => e = .returned (.tuple #[]) ∧ Heat w h sb ib pb sc' step' decay rest (againL (bfw sc') (it.length / 2) it) w' := by
  refine (V32_calls (some ⟨h, 0, none⟩) w (Unit' (Heat w h sb ib pb sc' step' decay rest (againL (bfw sc') (it.length / 2) it))) ?_).mono fun e w' ⟨v, he, hv, hk⟩ => ⟨by rw [he, hv], hk⟩
  unfold V32
  obtain ⟨hl, hg⟩ := scaled_get h1
  refine nn_of ?_
  simp only [add_mk, Nat.add_zero, Nat.reduceAdd, Nat.zero_add]
  refine ldC_of (hR.obj.cell 0) ?_
  refine lp_of (fun s w2 => ∃ k : Nat, s.1 = k ∧ k ≤ sc.length ∧ Keep (HF h sb ib pb) w w2 ∧ Rep w2 h sb ib pb (sc'.take k ++ sc.drop k) step decay it rest pl)
    (fun s _ => (sc.length - s.1).toNat) ⟨0, rfl, Nat.zero_le _, Keep.refl _ _, by simpa using hR⟩ ?_
  rintro ⟨b', ⟨⟩⟩ w2 ⟨k, rfl, hk, k2, hR2⟩
  simp only []
  have hlen : (sc'.take k ++ sc.drop k).length = sc.length := by simp; omega
  refine pif_of (fun hlt => ?_) fun hge => ?_
  · have hlt : k < sc.length := by simpa using hlt
    have hRd := hR2.drew
    have kd := k2.drew
    generalize w2.drew = w3 at *
    refine nn_of (ldC_of (hRd.obj.cell 0) (nn_of (ldC_of (hRd.obj.cell 0) (ixA_of1 (by omega) (by rw [hlen]; omega) ?_))))
    have hxk : (sc'.take k ++ sc.drop k)[k]? = some (sc.getD k 0) := by
      rw [List.getElem?_append_right (by simp; omega), List.getD_eq_getElem?_getD, List.getElem?_drop]
      simp only [List.length_take]
      rw [show min k sc'.length = k by omega, Nat.sub_self, Nat.add_zero, List.getElem?_eq_getElem hlt]; rfl
    refine ldF_of (x := sc.getD k 0) (by rw [Int.toNat_natCast, hRd.scores.cell, List.getElem?_map, hxk]; rfl) ⟨_, hg k hlt, ?_⟩
    refine ixA_of1 (by omega) (by rw [hlen]; omega) ?_
    simp only [add_mk, Nat.add_zero, Int.toNat_natCast]
    refine st_of hRd.scores (by rw [List.length_map, hlen]; exact hlt) rfl fun w4 h4 k4 _ => ?_
    have e1 : IntKind.wrap .i64 ((k : Int) + 1) = ((k + 1 : Nat) : Int) := by rw [IntKind.wrap_i64]; omega
    rw [e1]
    have es : ((sc'.take k ++ sc.drop k).set k (sc'.getD k 0)) = sc'.take (k + 1) ++ sc.drop (k + 1) := by
      rw [List.set_append_right _ _ (by simp; omega), List.length_take, show min k sc'.length = k by omega, Nat.sub_self, List.take_add_one, List.append_assoc]
      congr 1
      rw [List.drop_eq_getElem_cons hlt, List.set_cons_zero, List.getD_eq_getElem?_getD, List.getElem?_eq_getElem (by omega)]
      rfl
    rw [← List.map_set, es] at h4
    have hlen' : (sc'.take (k + 1) ++ sc.drop (k + 1)).length = sc.length := by simp; omega
    refine ⟨⟨k + 1, rfl, by omega, kd.thenS k4 (by simp [HF]), ?_⟩, by omega⟩
    refine ⟨?_, h4, hRd.items.keep1 k4 (Ne.symm hR.si), hRd.places.keep1 k4 (Ne.symm hR.sp), by rw [hlen']; exact hR.len, hR.hs, hR.hi, hR.hp, hR.si, hR.sp, hR.ip⟩
    have := hRd.obj.keep1 k4 hR.hs
    rw [hlen] at this
    rw [hlen']
    exact this
  · have hge : k = sc.length := by simp at hge; omega
    subst hge
    have e2 : sc'.take sc.length ++ sc.drop sc.length = sc' := by rw [← hl]; simp; omega
    rw [e2] at hR2
    refine nn_of ?_
    refine ldF_of (hR2.obj.cell 1) ⟨_, h2, nn_of ?_⟩
    refine st_of hR2.obj (by simp) rfl fun w3 h3 k3 _ => nn_of ?_
    have hR3 : Rep w3 h sb ib pb sc' step' decay it rest pl :=
      ⟨h3, hR2.scores.keep1 k3 (Ne.symm hR.hs), hR2.items.keep1 k3 (Ne.symm hR.hi), hR2.places.keep1 k3 (Ne.symm hR.hp), hR2.len, hR.hs, hR.hi, hR.hp, hR.si, hR.sp, hR.ip⟩
    refine cl_of ok46 (again46 hR3 (by omega) hi (by rw [hl]; exact hf)) fun e w4 ⟨he, k4, pl4, hR4, hf4⟩ => ⟨he, rfl, ?_, pl4, hR4, hf4⟩
    exact (k2.thenS k3 (by simp [HF])).trans k4 fun i _ h => by rcases h with h | h <;> simp [HF, h]
theorem Laid.heat {L : List Int} {w' : World} (hl : Laid w h sb ib pb sc step decay rest L w') : Heat w h sb ib pb sc step decay rest L w' :=
  ⟨hl.1.mono fun i _ h => by rcases h with h | h <;> simp [HF, h], hl.2⟩
end
end Go.Proofs.Ytfifgopmegbifaa.Heat
