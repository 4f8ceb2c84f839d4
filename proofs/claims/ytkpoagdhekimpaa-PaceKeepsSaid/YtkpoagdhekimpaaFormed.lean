/- Which configs are formed: pace.Formed and the reference's answer are one Bool. -/
import Derived.Test.YtkpoagdhekimpaaVcU
import Derived.Test.YtkpoagdhekimpaaTFormed
set_option linter.unusedVariables false
set_option linter.unusedSimpArgs false
namespace Go.Proofs.Ytkpoagdhekimpaa.Pace
open Go Go.Proofs.Ytkpoagdhekimpaa.Vc Go.Proofs.Ytkpoagdhekimpaa.T

def okN (x : Int) : Bool := decide (1 ≤ x) && decide (x ≤ 1048576)
def geHalf (d : Nat) : Bool := (FloatKind.format .f64).order d 4602678819172646912 == some .gt || (FloatKind.format .f64).order d 4602678819172646912 == some .eq
def leOne (d : Nat) : Bool := (FloatKind.format .f64).order d 4607182418800017408 == some .lt || (FloatKind.format .f64).order d 4607182418800017408 == some .eq
def formed (b f g : Int) (d : Nat) (p : Int) : Bool := okN b && okN f && okN g && (geHalf d && leOne d) && (decide (1 ≤ p) && decide (p ≤ 3))

theorem formed13 (b f g : Int) (d : Nat) (p q : Int) (w : World) :
    Calls Try.prog 13 #[.agg #[.int .i64 b, .int .i64 f, .int .i64 g, .float .f64 d, .int .i64 p, .int .i64 q]] w
      fun e w' => e = .returned (.bool (formed b f g d p)) ∧ Keep None w w' := by
  refine (V13_calls b f g d p q w (fun v w' => v = .bool (formed b f g d p) ∧ Keep None w w') ?_).mono fun e w' ⟨v, he, hv, hk⟩ => ⟨by rw [he, hv], hk⟩
  unfold V13
  simp only [alc]
  have hB := Blk.new w [.int .i64 b, .int .i64 f, .int .i64 g, .float .f64 d, .int .i64 p, .int .i64 q] 24
  have hK : Keep None w (w.alloc (.cells [.int .i64 b, .int .i64 f, .int .i64 g, .float .f64 d, .int .i64 p, .int .i64 q].toArray 24)) := (Keep.refl _ w).alloc _
  generalize w.alloc (.cells [.int .i64 b, .int .i64 f, .int .i64 g, .float .f64 d, .int .i64 p, .int .i64 q].toArray 24) = w1 at hB hK
  simp only [add_mk, Nat.zero_add]
  refine ldI_of (hB.cell 0) (ldI_of (hB.cell 1) (ldI_of (hB.cell 2) ?_))
  refine lp_of (fun s w' => w' = w1 ∧ 0 ≤ s.1 ∧ s.1 ≤ 3 ∧ (1 ≤ s.1 → okN b = true) ∧ (2 ≤ s.1 → okN f = true) ∧ (3 ≤ s.1 → okN g = true)) (fun s _ => (3 - s.1).toNat) ⟨rfl, by simp⟩ ?_
  rintro ⟨i, ⟨⟩⟩ w2 ⟨rfl, h0, h3, hb, hf, hg⟩
  simp only []
  simp only [] at h0 h3 hb hf hg
  refine pif_of (fun hlt => ?_) (fun hge => ?_)
  · have hlt' : i < 3 := by simpa using hlt
    refine ⟨h0, hlt', ?_⟩
    have step : ∀ x : Int, ([.int .i64 b, .int .i64 f, .int .i64 g] : List Value)[i.toNat]? = some (.int .i64 x) → (okN x = true → (1 ≤ i + 1 → okN b = true) ∧ (2 ≤ i + 1 → okN f = true) ∧ (3 ≤ i + 1 → okN g = true)) →
        (okN x = false → formed b f g d p = false) →
        ∃ x12, ([.int .i64 b, .int .i64 f, .int .i64 g] : List Value)[i.toNat]? = some (.int .i64 x12) ∧ pif (bif decide (x12 < 1) then true else decide (x12 > 1048576)) (Value.bool false = Value.bool (formed b f g d p) ∧ Keep None w w2)
          ((True ∧ 0 ≤ IntKind.wrap .i64 (i + 1) ∧ IntKind.wrap .i64 (i + 1) ≤ 3 ∧ (1 ≤ IntKind.wrap .i64 (i + 1) → okN b = true) ∧ (2 ≤ IntKind.wrap .i64 (i + 1) → okN f = true) ∧ (3 ≤ IntKind.wrap .i64 (i + 1) → okN g = true)) ∧ (3 - IntKind.wrap .i64 (i + 1)).toNat < (3 - i).toNat) := by
      intro x hx h1 h2
      refine ⟨x, hx, ?_⟩
      have hw : IntKind.wrap .i64 (i + 1) = i + 1 := by rcases (by omega : i = 0 ∨ i = 1 ∨ i = 2) with rfl | rfl | rfl <;> rfl
      rw [hw]
      cases ho : okN x with
      | false =>
        refine pif_t ?_ ⟨by rw [h2 ho], hK⟩
        simp only [okN, Bool.and_eq_false_iff, decide_eq_false_iff_not] at ho
        simp only [Bool.cond_true_left, Bool.or_eq_true, decide_eq_true_eq]
        omega
      | true =>
        have h1' := h1 ho
        simp only [okN, Bool.and_eq_true, decide_eq_true_eq] at ho
        refine pif_f ?_ ⟨⟨trivial, by omega, by omega, h1'.1, h1'.2.1, h1'.2.2⟩, by omega⟩
        simp only [Bool.cond_true_left, Bool.or_eq_false_iff, decide_eq_false_iff_not]
        omega
    rcases (by omega : i = 0 ∨ i = 1 ∨ i = 2) with rfl | rfl | rfl
    · exact step b rfl (fun h => ⟨fun _ => h, fun h => absurd h (by omega), fun h => absurd h (by omega)⟩) (fun h => by simp [formed, h])
    · exact step f rfl (fun h => ⟨fun _ => hb (by omega), fun _ => h, fun h => absurd h (by omega)⟩) (fun h => by simp [formed, h])
    · exact step g rfl (fun h => ⟨fun _ => hb (by omega), fun _ => hf (by omega), fun _ => h⟩) (fun h => by simp [formed, h])
  · have hge' : ¬ i < 3 := by simpa using hge
    obtain rfl : i = 3 := by omega
    refine ldF_of (hB.cell 3) ?_
    refine gd_pure d (fun _ K hk => ldF_of (hB.cell 3) hk) ?_
    refine gd_pure p (fun _ K hk => ldI_of (hB.cell 4) hk) ?_
    refine gd_pure p (fun _ K hk => ldI_of (hB.cell 4) hk) ?_
    refine ⟨?_, hK⟩
    congr 1
    simp only [formed, hb (by omega), hf (by omega), hg (by omega), geHalf, leOne, Bool.true_and]
    rcases Bool.eq_false_or_eq_true ((FloatKind.format .f64).order d 4602678819172646912 == some .gt || (FloatKind.format .f64).order d 4602678819172646912 == some .eq) with hX | hX
    · simp only [hX, cond_true, Bool.true_and]
      rcases Bool.eq_false_or_eq_true ((FloatKind.format .f64).order d 4607182418800017408 == some .lt || (FloatKind.format .f64).order d 4607182418800017408 == some .eq) with hY | hY
      · simp only [hY, cond_true, Bool.true_and]
        by_cases h1 : 1 ≤ p <;> simp [h1]
      · simp [hY]
    · simp [hX]

theorem formed14 (b f g : Int) (d : Nat) (p q : Int) (w : World) :
    Calls Try.prog 14 #[.agg #[.int .i64 b, .int .i64 f, .int .i64 g, .float .f64 d, .int .i64 p, .int .i64 q]] w
      fun e w' => e = .returned (.bool (formed b f g d p)) ∧ Keep None w w' := by
  refine (V14_calls b f g d p q w (fun v w' => v = .bool (formed b f g d p) ∧ Keep None w w') ?_).mono fun e w' ⟨v, he, hv, hk⟩ => ⟨by rw [he, hv], hk⟩
  unfold V14
  simp only [alc]
  have hB := Blk.new w [.int .i64 b, .int .i64 f, .int .i64 g, .float .f64 d, .int .i64 p, .int .i64 q] 24
  have hK : Keep None w (w.alloc (.cells [.int .i64 b, .int .i64 f, .int .i64 g, .float .f64 d, .int .i64 p, .int .i64 q].toArray 24)) := (Keep.refl _ w).alloc _
  generalize w.alloc (.cells [.int .i64 b, .int .i64 f, .int .i64 g, .float .f64 d, .int .i64 p, .int .i64 q].toArray 24) = w1 at hB hK
  simp only [add_mk, Nat.zero_add]
  refine ldI_of (hB.cell 0) ?_
  refine gd_pure b (fun _ K hk => ldI_of (hB.cell 0) hk) ?_
  refine gd_pure f (fun _ K hk => ldI_of (hB.cell 1) hk) ?_
  refine gd_pure f (fun _ K hk => ldI_of (hB.cell 1) hk) ?_
  refine gd_pure g (fun _ K hk => ldI_of (hB.cell 2) hk) ?_
  refine gd_pure g (fun _ K hk => ldI_of (hB.cell 2) hk) ?_
  have hN : ∀ x : Int, okN x = true ↔ ¬ x < 1 ∧ ¬ x > 1048576 := fun x => by simp only [okN, Bool.and_eq_true, decide_eq_true_eq]; omega
  by_cases hb : okN b = true
  case neg =>
    refine pif_t ?_ ⟨by simp [formed, hb], hK⟩
    rw [hN] at hb
    by_cases h1 : b < 1 <;> by_cases h2 : b > 1048576 <;> simp [h1, h2] <;> omega
  have hb' := (hN b).1 hb
  by_cases hf : okN f = true
  case neg =>
    refine pif_t ?_ ⟨by simp [formed, hf], hK⟩
    rw [hN] at hf
    by_cases h1 : f < 1 <;> by_cases h2 : f > 1048576 <;> simp [h1, h2, hb'.1, hb'.2] <;> omega
  have hf' := (hN f).1 hf
  by_cases hg : okN g = true
  case neg =>
    refine pif_t ?_ ⟨by simp [formed, hg], hK⟩
    rw [hN] at hg
    by_cases h1 : g < 1 <;> by_cases h2 : g > 1048576 <;> simp [h1, h2, hb'.1, hb'.2, hf'.1, hf'.2] <;> omega
  have hg' := (hN g).1 hg
  refine pif_f (by simp [hb'.1, hb'.2, hf'.1, hf'.2, hg'.1, hg'.2]) ?_
  refine ldF_of (hB.cell 3) ?_
  refine gd_pure d (fun _ K hk => ldF_of (hB.cell 3) hk) ?_
  have hX : ((FloatKind.format .f64).order d 4602678819172646912 == some .gt || (FloatKind.format .f64).order d 4602678819172646912 == some .eq) = geHalf d := rfl
  have hY : ((FloatKind.format .f64).order d 4607182418800017408 == some .lt || (FloatKind.format .f64).order d 4607182418800017408 == some .eq) = leOne d := rfl
  rw [hX]
  rcases Bool.eq_false_or_eq_true (geHalf d) with hx | hx
  case inr => exact pif_t (by simp [hx]) ⟨by simp [formed, hx], hK⟩
  simp only [hx, cond_true]
  rw [hY]
  rcases Bool.eq_false_or_eq_true (leOne d) with hy | hy
  case inr => exact pif_t (by simp [hy]) ⟨by simp [formed, hy], hK⟩
  refine pif_f (by simp [hy]) ?_
  refine ldI_of (hB.cell 4) ?_
  refine gd_pure p (fun _ K hk => ldI_of (hB.cell 4) hk) ?_
  refine gd_pure p (fun _ K hk => ldI_of (hB.cell 4) hk) ?_
  refine ⟨?_, hK⟩
  congr 1
  simp only [formed, hb, hf, hg, hx, hy, Bool.true_and]
  by_cases h1 : p = 1
  · subst h1; rfl
  by_cases h2 : p = 2
  · subst h2; rfl
  by_cases h3 : p = 3
  · subst h3; rfl
  have e1 : (decide (1 ≤ p) && decide (p ≤ 3)) = false := by
    rw [Bool.and_eq_false_iff, decide_eq_false_iff_not, decide_eq_false_iff_not]; omega
  have f1 : (p == 1) = false := by simpa using h1
  have f2 : (p == 2) = false := by simpa using h2
  have f3 : (p == 3) = false := by simpa using h3
  simp only [e1, f1, f2, f3, cond_true, cond_false, Bool.not_false, Bool.not_true]

theorem law3 (b f g : Int) (d : Nat) (p q : Int) (w : World) :
    Calls Try.prog 3 #[.agg #[.int .i64 b, .int .i64 f, .int .i64 g, .float .f64 d, .int .i64 p, .int .i64 q]] w
      fun e w' => e = .returned (.bool true) ∧ RowKit.Below w.heap.size w w' := by
  refine (V3_calls b f g d p q w (fun v w' => v = .bool true ∧ Keep None w w') ?_).mono fun e w' ⟨v, he, hv, hk⟩ => ⟨by rw [he, hv], hk.below0⟩
  unfold V3
  simp only [alc]
  have hB := Blk.new w [.int .i64 b, .int .i64 f, .int .i64 g, .float .f64 d, .int .i64 p, .int .i64 q] 24
  have hK : Keep None w (w.alloc (.cells [.int .i64 b, .int .i64 f, .int .i64 g, .float .f64 d, .int .i64 p, .int .i64 q].toArray 24)) := (Keep.refl _ w).alloc _
  generalize w.alloc (.cells [.int .i64 b, .int .i64 f, .int .i64 g, .float .f64 d, .int .i64 p, .int .i64 q].toArray 24) = w1 at hB hK
  simp only [add_mk, Nat.zero_add]
  have hB' := hB.drew
  refine ldI_of (hB'.cell 0) (ldI_of (hB'.cell 1) (ldI_of (hB'.cell 2) (ldF_of (hB'.cell 3) (ldI_of (hB'.cell 4) (ldI_of (hB'.cell 5) ?_)))))
  refine ldI_of (hB'.cell 0) (ldI_of (hB'.cell 1) (ldI_of (hB'.cell 2) (ldF_of (hB'.cell 3) (ldI_of (hB'.cell 4) (ldI_of (hB'.cell 5) ?_)))))
  refine cl_of ok13 (formed13 b f g d p q _) fun e w2 ⟨he, hk2⟩ => ⟨_, he, ?_, ?_⟩
  · have h2 := hB'.keep hk2 (fun h => h.elim)
    exact ldI_of (h2.cell 0) (ldI_of (h2.cell 1) (ldI_of (h2.cell 2) (ldF_of (h2.cell 3) (ldI_of (h2.cell 4) (ldI_of (h2.cell 5) rfl)))))
  · exact cl_of ok14 (formed14 b f g d p q _) fun e w3 ⟨he, hk3⟩ => ⟨_, he, by simp, ((hK.drew).trans hk2 (fun _ _ h => h)).trans hk3 (fun _ _ h => h)⟩
end Go.Proofs.Ytkpoagdhekimpaa.Pace
