/- PaceNumbers: each refusal asked for. -/
import Derived.Test.YtkpoagdhekimpaaTPlan
import Derived.Test.YtkpoagdhekimpaaTNum
import Derived.Test.YtkpoagdhekimpaaMakes2
set_option linter.unusedVariables false
set_option linter.unusedSimpArgs false
set_option maxRecDepth 100000
namespace Go.Proofs.Ytkpoagdhekimpaa.Pace
open Go Go.Proofs.Ytkpoagdhekimpaa.Vc Go.Proofs.Ytkpoagdhekimpaa.T

/-- Plan of too few or too many conflicts -/
theorem plan_range {b f g : Int} {d : Nat} {p q : Int} (hf : formed b f g d p = true) {n : Int} (hn : n < 0 ∨ n > 1048576) (w : World) :
    Calls Try.prog 21 #[.agg #[I b, I f, I g, F d, I p, I q], I n] w fun e w' => e = .returned (.tuple #[.slice none 0 0, I 2]) ∧ Keep None w w' := by
  refine (V21_calls b f g d p q n w (fun v w' => v = .tuple #[.slice none 0 0, I 2] ∧ Keep None w w') ?_).mono fun e w' ⟨v, he, hv, hk⟩ => ⟨by rw [he, hv], hk⟩
  unfold V21
  refine alc_at fun b2 w1 hb2 hC k1 => ?_
  refine alc_at fun b3 w2 hb3 hN k2 => ?_
  simp only [add_mk, Nat.zero_add, Nat.add_zero]
  have hC2 := hC.keep0 k2
  refine ldI_of (hC2.cell 0) (ldI_of (hC2.cell 1) (ldI_of (hC2.cell 2) (ldF_of (hC2.cell 3) (ldI_of (hC2.cell 4) (ldI_of (hC2.cell 5) ?_)))))
  refine cl_of ok18 (make18 b f g d p q w2) fun e w3 ⟨v, he, k3, hv⟩ => ?_
  rcases hv with ⟨h, _⟩ | ⟨_, A, _, _, rfl, hA⟩
  · rw [hf] at h; cases h
  refine ⟨_, _, _, _, he, ?_⟩
  refine alc_at fun b4 w4 hb4 hP k4 => ?_
  refine st_of hP (by simp) rfl fun w5 hP5 k5 _ => ?_
  refine st_of hP5 (by simp) rfl fun w6 hP6 k6 _ => ?_
  refine st_of hP6 (by simp) rfl fun w7 hP7 k7 _ => ?_
  have k37 : Keep None w3 w7 := ((k4.then1 k5 (by omega)).then1 k6 (by omega)).then1 k7 (by omega)
  have hN7 := (hN.keep0 k3).keep0 k37
  have kk := ((k1.then0 k2).then0 k3).then0 k37
  refine pif_f rfl (ldI_of (hN7.cell 0) ?_)
  by_cases h0 : n < 0
  · have e0 : decide (n < 0) = true := decide_eq_true h0
    exact gd_f (by rw [e0]; rfl) (pif_t (by rw [e0]; rfl) ⟨by first | rfl | trivial, kk⟩)
  · have e0 : decide (n < 0) = false := decide_eq_false h0
    refine gd_t (by rw [e0]; rfl) (ldI_of (hN7.cell 0) (pif_t ?_ ⟨by first | rfl | trivial, kk⟩))
    rw [e0, decide_eq_true (show n > 1048576 by omega)]; rfl
theorem law8 (w : World) : Calls Try.prog 8 #[] w fun e w' => e = .returned (.bool true) ∧ RowKit.Below w.heap.size w w' := by
  refine (V8_calls w (fun v w' => v = .bool true ∧ Keep None w w') ?_).mono fun e w' ⟨v, he, hv, hk⟩ => ⟨by rw [he, hv], hk.below0⟩
  unfold V8
  have hr : formed 1048576 1048576 1 4602678819172646912 3 = true := by decide +kernel
  have hw : formed 1048577 1048576 1 4602678819172646912 3 = false := by decide +kernel
  refine alc_at fun b3 w1 hb3 h1 k1 => ?_
  simp only [add_mk, Nat.zero_add, Nat.add_zero]
  have l1 := h1.lt
  refine st_of h1 (by simp) rfl fun w2 h2 k2 _ => ?_
  refine st_of h2 (by simp) rfl fun w3 h3 k3 _ => ?_
  refine st_of h3 (by simp) rfl fun w4 h4 k4 _ => ?_
  refine st_of h4 (by simp) rfl fun w5 h5 k5 _ => ?_
  refine st_of h5 (by simp) rfl fun w6 h6 k6 _ => ?_
  refine st_of h6 (by simp) rfl fun w7 h7 k7 _ => ?_
  simp only [List.set_cons_zero, List.set_cons_succ] at h7
  have k07 : Keep None w w7 := (((((k1.then1 k2 (by omega)).then1 k3 (by omega)).then1 k4 (by omega)).then1 k5 (by omega)).then1 k6 (by omega)).then1 k7 (by omega)
  refine ldI_of (h7.cell 0) (ldI_of (h7.cell 1) (ldI_of (h7.cell 2) (ldF_of (h7.cell 3) (ldI_of (h7.cell 4) (ldI_of (h7.cell 5) ?_)))))
  refine alc_at fun b11 w8 hb11 g8 j8 => ?_
  refine st_of g8 (by simp) rfl fun w9 g9 j9 _ => ?_
  refine st_of g9 (by simp) rfl fun w10 g10 j10 _ => ?_
  refine st_of g10 (by simp) rfl fun w11 g11 j11 _ => ?_
  refine st_of g11 (by simp) rfl fun w12 g12 j12 _ => ?_
  refine st_of g12 (by simp) rfl fun w13 g13 j13 _ => ?_
  refine st_of g13 (by simp) rfl fun w14 g14 j14 _ => ?_
  refine st_of g14 (by simp) rfl fun w15 g15 j15 _ => ?_
  simp only [List.set_cons_zero, List.set_cons_succ] at g15
  have k715 : Keep None w7 w15 := ((((((j8.then1 j9 (by omega)).then1 j10 (by omega)).then1 j11 (by omega)).then1 j12 (by omega)).then1 j13 (by omega)).then1 j14 (by omega)).then1 j15 (by omega)
  refine ldI_of (g15.cell 0) (ldI_of (g15.cell 1) (ldI_of (g15.cell 2) (ldF_of (g15.cell 3) (ldI_of (g15.cell 4) (ldI_of (g15.cell 5) ?_)))))
  refine cl_of ok18 (make18 1048577 1048576 1 4602678819172646912 3 0 w15) fun e w16 ⟨v, he, k16, hv⟩ => ?_
  rcases hv with ⟨_, rfl⟩ | ⟨h, _⟩
  case inr => rw [hw] at h; cases h
  refine ⟨_, _, _, _, he, ?_⟩
  refine alc_at fun b25 w17 hb25 f17 i17 => ?_
  refine st_of f17 (by simp) rfl fun w18 f18 i18 _ => ?_
  refine st_of f18 (by simp) rfl fun w19 f19 i19 _ => ?_
  refine st_of f19 (by simp) rfl fun w20 f20 i20 _ => ?_
  have k1620 : Keep None w16 w20 := ((i17.then1 i18 (by omega)).then1 i19 (by omega)).then1 i20 (by omega)
  have k720 := (k715.then0 k16).then0 k1620
  have h20 := h7.keep0 k720
  refine ldI_of (h20.cell 0) (ldI_of (h20.cell 1) (ldI_of (h20.cell 2) (ldF_of (h20.cell 3) (ldI_of (h20.cell 4) (ldI_of (h20.cell 5) ?_)))))
  refine cl_of ok21 (plan_range hr (n := 1048577) (Or.inr (by decide)) w20) fun e w21 ⟨he, k21⟩ => ⟨_, _, _, _, he, ?_⟩
  have h21 := h20.keep0 k21
  refine ldI_of (h21.cell 0) (ldI_of (h21.cell 1) (ldI_of (h21.cell 2) (ldF_of (h21.cell 3) (ldI_of (h21.cell 4) (ldI_of (h21.cell 5) ?_)))))
  refine cl_of ok21 (plan_range hr (n := -1) (Or.inl (by decide)) w21) fun e w22 ⟨he, k22⟩ => ⟨_, _, _, _, he, ?_⟩
  have h22 := h21.keep0 k22
  refine gd_t rfl (ldI_of (h22.cell 0) (ldI_of (h22.cell 1) (ldI_of (h22.cell 2) (ldF_of (h22.cell 3) (ldI_of (h22.cell 4) (ldI_of (h22.cell 5) ?_))))))
  refine gd_t rfl (cl_of ok13 (formed13 1048576 1048576 1 4602678819172646912 3 0 w22) fun e w23 ⟨he, k23⟩ => ⟨_, he, ?_⟩)
  rw [hr]
  have g23 := ((((g15.keep0 k16).keep0 k1620).keep0 k21).keep0 k22).keep0 k23
  refine gd_t rfl (ldI_of (g23.cell 0) (ldI_of (g23.cell 1) (ldI_of (g23.cell 2) (ldF_of (g23.cell 3) (ldI_of (g23.cell 4) (ldI_of (g23.cell 5) ?_))))))
  refine gd_t rfl (cl_of ok13 (formed13 1048577 1048576 1 4602678819172646912 3 0 w23) fun e w24 ⟨he, k24⟩ => ⟨_, he, ?_, (((k07.then0 k720).then0 k21).then0 k22).then0 (k23.then0 k24)⟩)
  rw [hw]; rfl
end Go.Proofs.Ytkpoagdhekimpaa.Pace
