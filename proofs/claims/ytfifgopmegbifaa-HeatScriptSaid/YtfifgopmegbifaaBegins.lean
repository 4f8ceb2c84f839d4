/- HeatBegins: of which numbers and decays there is a heat: the law's walk. -/
import Derived.Test.YtfifgopmegbifaaNew
set_option linter.unusedVariables false
set_option linter.unusedSimpArgs false
namespace Go.Proofs.Ytfifgopmegbifaa.Heat
open Go Go.Proofs.Ytfifgopmegbifaa.Vc Go.Proofs.Ytfifgopmegbifaa.T

section
variable {w : World} {h sb ib pb : Nat} {sc : List Nat} {step decay : Nat} {it rest pl : List Int}
theorem own29 (hR : Rep w h sb ib pb sc step decay it rest pl) (v : Int) :
    Calls Try.prog 29 #[.pointer (some ⟨h, 0, none⟩), I v] w fun e w' => e = .returned (.bool (decide (1 ≤ v) && decide (v ≤ sc.length))) ∧ w' = w := by
  refine (V29_calls (some ⟨h, 0, none⟩) v w (fun x w' => x = .bool (decide (1 ≤ v) && decide (v ≤ sc.length)) ∧ w' = w) ?_).mono fun e w' ⟨x, he, hv, hk⟩ => ⟨by rw [he, hv], hk⟩
  unfold V29
  by_cases h1 : 1 ≤ v
  · refine gd_t (by simpa using h1) (nn_of ?_)
    refine gd_t (by simpa using h1) ?_
    simp only [add_mk, Nat.zero_add]
    refine ldC_of (hR.obj.cell 0) ?_
    simp [h1]
  · refine gd_f (by simpa using h1) ?_
    refine gd_f (by simpa using h1) ?_
    simp [h1]
theorem has30 (hR : Rep w h sb ib pb sc step decay it rest pl) {v : Int} (h1 : 1 ≤ v) (h2 : v ≤ sc.length) (h3 : v ≤ 9223372036854775807) {x : Int} (hx : pl[(v - 1).toNat]? = some x) :
    Calls Try.prog 30 #[.pointer (some ⟨h, 3, none⟩), I v] w fun e w' => e = .returned (.bool (decide (0 ≤ x))) ∧ w' = w := by
  refine (V30_calls (some ⟨h, 3, none⟩) v w (fun y w' => y = .bool (decide (0 ≤ x)) ∧ w' = w) ?_).mono fun e w' ⟨x, he, hv, hk⟩ => ⟨by rw [he, hv], hk⟩
  unfold V30
  have hw : IntKind.wrap .i64 (v - 1) = v - 1 := by rw [IntKind.wrap_i64]; omega
  simp only [add_mk, Nat.reduceAdd, hw]
  refine nn_of (ldC_of (hR.obj.cell 4) (ixA_of1 (by omega) (by have := hR.len; omega) ?_))
  refine ldI_of (x := x) (by rw [hR.places.cell, List.getElem?_map, hx]; rfl) ⟨rfl, trivial⟩
/-- In's answer: whether it is a variable that has a place -/
def within (pl : List Int) (n : Nat) (v : Int) : Bool := decide (1 ≤ v) && decide (v ≤ n) && (match pl[(v - 1).toNat]? with | some x => decide (0 ≤ x) | none => false)
theorem in10 (hR : Rep w h sb ib pb sc step decay it rest pl) (v : Int) (hn : sc.length ≤ 1048576) :
    Calls Try.prog 10 #[.pointer (some ⟨h, 0, none⟩), I v] w fun e w' => e = .returned (.bool (within pl sc.length v)) ∧ w' = w := by
  refine (V10_calls (some ⟨h, 0, none⟩) v w (fun y w' => y = .bool (within pl sc.length v) ∧ w' = w) ?_).mono fun e w' ⟨x, he, hv, hk⟩ => ⟨by rw [he, hv], hk⟩
  unfold V10
  refine cl_of ok29 (own29 hR v) fun e w1 ⟨he, hw⟩ => ⟨_, he, ?_⟩
  subst hw
  rcases Bool.eq_false_or_eq_true (decide (1 ≤ v) && decide (v ≤ sc.length)) with hb | hb
  · rw [hb]
    refine gd_t rfl (nn_of ?_)
    refine gd_t rfl ?_
    simp only [add_mk, Nat.zero_add]
    have hb' : 1 ≤ v ∧ v ≤ sc.length := by simpa using hb
    have hlt : (v - 1).toNat < pl.length := by have := hR.len; omega
    refine cl_of ok30 (has30 hR hb'.1 hb'.2 (by omega) (List.getElem?_eq_getElem hlt)) fun e w2 ⟨he, hw⟩ => ⟨_, he, ?_⟩
    subst hw
    refine ⟨?_, rfl⟩
    unfold within
    rw [hb, List.getElem?_eq_getElem hlt]; rfl
  · rw [hb]
    refine gd_f rfl ?_
    refine gd_f rfl ?_
    refine ⟨?_, rfl⟩
    simp only [within, hb, Bool.false_and]; rfl
theorem score11 (hR : Rep w h sb ib pb sc step decay it rest pl) (v : Int) (hn : sc.length ≤ 1048576) :
    Calls Try.prog 11 #[.pointer (some ⟨h, 0, none⟩), I v] w fun e w' => w' = w ∧
      e = .returned (if 1 ≤ v ∧ v ≤ sc.length then .tuple #[F (sc.getD (v - 1).toNat 0), I 0] else .tuple #[F 0, I 2]) := by
  refine (V11_calls (some ⟨h, 0, none⟩) v w (fun y w' => y = (if 1 ≤ v ∧ v ≤ sc.length then .tuple #[F (sc.getD (v - 1).toNat 0), I 0] else .tuple #[F 0, I 2]) ∧ w' = w) ?_).mono fun e w' ⟨x, he, hv, hk⟩ => ⟨hk, by rw [he, hv]⟩
  unfold V11
  refine cl_of ok29 (own29 hR v) fun e w1 ⟨he, hw⟩ => ⟨_, he, ?_⟩
  subst hw
  by_cases hb : 1 ≤ v ∧ v ≤ sc.length
  · have hb2 : (decide (1 ≤ v) && decide (v ≤ sc.length)) = true := by simpa using hb
    rw [hb2]
    refine pif_f rfl (nn_of ?_)
    have hw : IntKind.wrap .i64 (v - 1) = v - 1 := by rw [IntKind.wrap_i64]; omega
    simp only [add_mk, Nat.zero_add, hw]
    refine ldC_of (hR.obj.cell 0) (ixA_of1 (by omega) (by omega) ?_)
    have hlt : (v - 1).toNat < sc.length := by omega
    refine ldF_of (x := sc.getD (v - 1).toNat 0) (by rw [hR.scores.cell, List.getElem?_map, List.getD_eq_getElem?_getD, List.getElem?_eq_getElem hlt]; rfl) ⟨?_, trivial⟩
    rw [if_pos hb]
  · have hb2 : (decide (1 ≤ v) && decide (v ≤ sc.length)) = false := by
      rw [Bool.and_eq_false_iff, decide_eq_false_iff_not, decide_eq_false_iff_not]; omega
    rw [hb2]
    refine pif_t rfl ⟨?_, rfl⟩
    rw [if_neg hb]
end

theorem within0 (n : Nat) (v : Int) : within ((List.range n).map fun k : Nat => (k : Int)) n v = (decide (1 ≤ v) && decide (v ≤ n)) := by
  unfold within
  rcases Bool.eq_false_or_eq_true (decide (1 ≤ v) && decide (v ≤ n)) with hb | hb
  · rw [hb]
    have hb' : 1 ≤ v ∧ v ≤ n := by simpa using hb
    have : (v - 1).toNat < n := by omega
    rw [List.getElem?_map, List.getElem?_range this]
    simp
  · rw [hb]; rfl

theorem law3 (n : Int) (d : Nat) (w : World) (hn : -9223372036854775808 ≤ n ∧ n ≤ 9223372036854775807) :
    Calls Try.prog 3 #[I n, F d] w fun e w' => e = .returned (.bool true) ∧ RowKit.Below w.heap.size w w' := by
  refine (V3_calls n d w (fun v w' => v = .bool true ∧ Keep None w w') ?_).mono fun e w' ⟨v, he, hv, hk⟩ => ⟨by rw [he, hv], hk.below0⟩
  unfold V3
  refine cl_of ok9 (new9 2 4604930618986332160 w (by omega)) fun e w1 ⟨v, he, hk1, hv⟩ => ?_
  rcases hv with ⟨hf, _⟩ | ⟨_, h, sb, ib, pb, g1, g2, g3, g4, rfl, hR⟩
  · revert hf; unfold fine; intro hf; exact absurd hf (by decide +kernel)
  refine ⟨_, _, he, ?_⟩
  have hw2 : ∀ v, within ((List.range (2 : Int).toNat).map fun k : Nat => (k : Int)) 2 v = (decide (1 ≤ v) && decide (v ≤ (2 : Nat))) := fun v => within0 2 v
  refine gd_t rfl (cl_of ok10 (in10 hR 1 (by simp)) fun e w2 ⟨he, hw⟩ => ⟨_, he, ?_⟩)
  subst hw
  rw [show within ((List.range (2 : Int).toNat).map fun k : Nat => (k : Int)) (List.replicate (2 : Int).toNat 0).length 1 = true by rfl]
  refine gd_t rfl (cl_of ok10 (in10 hR 3 (by simp)) fun e w2 ⟨he, hw⟩ => ⟨_, he, ?_⟩)
  subst hw
  rw [show within ((List.range (2 : Int).toNat).map fun k : Nat => (k : Int)) (List.replicate (2 : Int).toNat 0).length 3 = false by rfl]
  refine pif_f rfl ?_
  refine cl_of ok9 (new9 n d w2 hn) fun e w3 ⟨v, he, hk2, hv⟩ => ?_
  have hK := hk1.then0 hk2
  have hf : (cond (cond (decide (n < 0)) true (decide (n > 1048576))) true (!(cond ((FloatKind.format .f64).order d 4602678819172646912 == some .gt || (FloatKind.format .f64).order d 4602678819172646912 == some .eq) ((FloatKind.format .f64).order d 4607182418800017408 == some .lt || (FloatKind.format .f64).order d 4607182418800017408 == some .eq) false))) = !fine n d := by
    unfold fine
    by_cases h1 : n < 0
    · have : ¬ 0 ≤ n := by omega
      simp [h1, this]
    · by_cases h2 : n > 1048576
      · have : ¬ n ≤ 1048576 := by omega
        simp [h1, h2, this]
      · have e1 : 0 ≤ n := by omega
        have e2 : n ≤ 1048576 := by omega
        simp [h1, h2, e1, e2]
  rw [hf]
  rcases hv with ⟨hfine, rfl⟩ | ⟨hfine, h', sb', ib', pb', _, _, _, _, rfl, hR'⟩
  · refine ⟨_, _, he, ?_⟩
    rw [hfine]
    exact pif_t rfl ⟨rfl, hK⟩
  refine ⟨_, _, he, ?_⟩
  rw [hfine]
  refine pif_f rfl ?_
  have hn0 : 0 ≤ n ∧ n ≤ 1048576 := by
    simp only [fine, Bool.and_eq_true, decide_eq_true_eq] at hfine
    exact hfine.1
  obtain ⟨m, rfl⟩ : ∃ m : Nat, n = m := ⟨n.toNat, by omega⟩
  simp only [Int.toNat_natCast] at hR'
  have hin : ∀ v, Calls Try.prog 10 #[.pointer (some ⟨h', 0, none⟩), I v] w3 fun e w' => e = .returned (.bool (decide (1 ≤ v) && decide (v ≤ m))) ∧ w' = w3 := fun v => by
    have := in10 hR' v (by simp; omega)
    rw [List.length_replicate, within0] at this
    exact this
  have hw : IntKind.wrap .i64 ((m : Int) + 1) = m + 1 := by rw [IntKind.wrap_i64]; omega
  refine gd_t rfl (cl_of ok10 (hin 0) fun e w4 ⟨he, hw'⟩ => ⟨_, he, ?_⟩)
  subst hw'
  rw [hw]
  refine gd_t rfl (cl_of ok10 (hin _) fun e w5 ⟨he, hw'⟩ => ⟨_, he, ?_⟩)
  subst hw'
  have e1 : (decide (1 ≤ (m : Int) + 1) && decide ((m : Int) + 1 ≤ m)) = false := by simp; omega
  rw [e1]
  refine pif_f rfl ?_
  refine cl_of ok11 (score11 hR' m (by simp; omega)) fun e w6 ⟨hw', he⟩ => ?_
  subst hw'
  rw [List.length_replicate] at he
  rcases Nat.eq_zero_or_pos m with rfl | hm
  · rw [if_neg (by omega)] at he
    refine ⟨_, _, he, ?_⟩
    exact gd_f rfl (gd_f rfl ⟨rfl, hK⟩)
  · rw [if_pos (by omega)] at he
    refine ⟨_, _, he, ?_⟩
    have e0 : ((m : Int) == 0) = false := by simp; omega
    have e2 : decide ((m : Int) > 0) = true := by simp; omega
    have e3 : (List.replicate m 0).getD ((m : Int) - 1).toNat 0 = 0 := by
      rw [List.getD_eq_getElem?_getD, List.getElem?_replicate]; split <;> rfl
    have e4 : ((FloatKind.format .f64).order 0 0 == some .eq) = true := by decide +kernel
    rw [e0, e2, e3, e4]
    refine gd_t rfl (cl_of ok10 (hin 1) fun e w7 ⟨he, hw'⟩ => ⟨_, he, ?_⟩)
    subst hw'
    have e5 : (decide ((1 : Int) ≤ 1) && decide ((1 : Int) ≤ m)) = true := by simp; omega
    rw [e5]
    refine gd_t rfl (cl_of ok10 (hin m) fun e w8 ⟨he, hw'⟩ => ⟨_, he, ?_⟩)
    subst hw'
    have e6 : (decide ((1 : Int) ≤ m) && decide ((m : Int) ≤ m)) = true := by simp; omega
    rw [e6]
    exact ⟨rfl, hK⟩
end Go.Proofs.Ytfifgopmegbifaa.Heat
