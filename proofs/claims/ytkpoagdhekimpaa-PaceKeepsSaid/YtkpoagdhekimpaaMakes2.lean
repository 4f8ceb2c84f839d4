/- The law of scripts on two Paces: its walk. -/
import Derived.Test.YtkpoagdhekimpaaMakes
set_option linter.unusedVariables false
set_option linter.unusedSimpArgs false
set_option maxRecDepth 100000
namespace Go.Proofs.Ytkpoagdhekimpaa.Pace
open Go Go.Proofs.Ytkpoagdhekimpaa.Vc Go.Proofs.Ytkpoagdhekimpaa.T

def St20 (w : World) (A : Ids) (m : Nat) (v : Value) (w' : World) : Prop := v = .bool true ∧ Keep (Foot A m) w w' ∧ Both w' A m
theorem step20 {w : World} {A : Ids} {m : Nat} (x : Int) (hA : A.ok m) (hB : Both w A m) (hf : A.f < w.heap.size ∧ m < w.heap.size) :
    Calls Try.prog 20 #[.agg #[fc A, fr A, fl A], Pt m, I x] w fun e w' => e = .returned (.bool true) ∧ Keep (Foot A m) w w' ∧ Both w' A m := by
  refine (V20_calls (fc A) (fr A) (fl A) (some ⟨m, 0, none⟩) x w (St20 w A m) ?_).mono fun e w' ⟨v, he, hv, hk⟩ => ⟨by rw [he, hv], hk⟩
  unfold V20
  refine alc_at fun b w1 hb hO k1 => ?_
  have hA' := hA
  obtain ⟨o1, o2, o3, o4, o5, o6⟩ := hA
  have hB1 : Both w1 A m := hB.keep k1 fun _ _ h => h
  have hK1 : Keep (Foot A m) w w1 := k1.none
  have hF : ∀ i, Foot A m i → i < w.heap.size := fun i h => by rcases h with h | h | h | h | h | h <;> omega
  have hbF : ¬ Foot A m b := fun h => by have := hF _ h; omega
  have tr : ∀ {w2 w3 : World}, Keep (Foot A m) w w2 → Keep (Foot A m) w2 w3 → Keep (Foot A m) w w3 := fun h h' => h.trans h' fun _ _ h => h
  simp only [add_mk, Nat.zero_add]
  refine pif_of (fun _ => ⟨rfl, hK1, hB1⟩) fun _ => ?_
  refine pif_of (fun _ => ?_) fun _ => ?_
  · have key : ∀ v6 : Int, 0 ≤ v6 → v6 ≤ 3000 → lp (σ := Int × Unit) (fun s14 w3 k13 =>
        pif (decide (s14.1 < v6)) (
          ldV w3 (⟨b, 0, none⟩ : Addr) fun x17 =>
          clF Try.prog (x17) [] w3 fun e18 w4 => e18 = Ending.returned (.tuple #[]) ∧
          cl Try.prog 31 [.pointer (some ⟨m, 0, none⟩)] w4 fun e20 w5 => e20 = Ending.returned (.tuple #[]) ∧
          k13 ((IntKind.wrap .i64 (s14.1 + 1)), ()) w5) (
          St20 w A m (.bool true) w3)) (0, ()) w1 := fun v6 h0 h3 => by
      refine lp_of (fun s w3 => 0 ≤ s.1 ∧ s.1 ≤ v6 ∧ Keep (Foot A m) w w3 ∧ Both w3 A m ∧ Blk w3 b [fc A, fr A, fl A] 34) (fun s _ => (v6 - s.1).toNat) ⟨by simp, by simpa using h0, hK1, hB1, hO⟩ ?_
      rintro ⟨i, ⟨⟩⟩ w3 ⟨i0, i1, k3, hB3, hO3⟩
      simp only [] at i0 i1 ⊢
      refine pif_of (fun hlt => ?_) fun hge => ⟨rfl, k3, hB3⟩
      have hlt : i < v6 := by simpa using hlt
      refine ldV_of (hO3.cell 0) ?_
      refine act_c hA' hB3 fun w4 hB4 k4 => ?_
      have e1 : IntKind.wrap .i64 (i + 1) = i + 1 := by rw [IntKind.wrap_i64]; omega
      rw [e1]
      exact ⟨⟨by omega, by omega, tr k3 k4, hB4, hO3.keep k4 hbF⟩, by omega⟩
    refine jn_of ?_
    refine pif_of (fun _ => ?_) fun h1 => ?_
    · exact key 3000 (by omega) (by omega)
    · exact key x (by rename_i h0 _; simp at h0; omega) (by simp at h1; omega)
  · refine jn_of ?_
    refine pif_of (fun _ => ?_) fun _ => ?_
    · refine ldV_of (hO.cell 0) ?_
      exact act_c (K := fun w' => St20 w A m (.bool true) w') hA' hB1 fun w4 hB4 k4 => ⟨rfl, tr hK1 k4, hB4⟩
    refine pif_of (fun _ => ?_) fun _ => ?_
    · refine ldV_of (hO.cell 1) ?_
      exact act_r (K := fun b w' => St20 w A m (.bool b) w') hA' hB1 fun w4 hB4 k4 => ⟨rfl, tr hK1 k4, hB4⟩
    refine pif_of (fun _ => ?_) fun _ => ?_
    · refine ldV_of (hO.cell 2) ?_
      exact act_l (K := fun b w' => St20 w A m (.bool b) w') hA' hB1 fun w4 hB4 k4 => ⟨rfl, tr hK1 k4, hB4⟩
    · exact ⟨rfl, hK1, hB1⟩

/-- what Make gives -/
def Made (c : Bool) (bs f g : Int) (w : World) (v : Value) (w' : World) : Prop := Keep None w w' ∧
  ((c = false ∧ v = .tuple #[.agg #[.nilFunc, .nilFunc, .nilFunc], I 1]) ∨
   (c = true ∧ ∃ A : Ids, w.heap.size ≤ A.f ∧ A.ok w'.heap.size ∧ v = .tuple #[.agg #[fc A, fr A, fl A], I 0] ∧ PRep w' A bs f g 0 0 0 1 0))
theorem make18 (b f g : Int) (d : Nat) (p q : Int) (w : World) :
    Calls Try.prog 18 #[.agg #[I b, I f, I g, F d, I p, I q]] w fun e w' => ∃ v, e = .returned v ∧ Made (formed b f g d p) b f g w v w' := by
  refine V18_calls b f g d p q w (Made (formed b f g d p) b f g w) ?_
  unfold V18
  refine alc_at fun b2 w1 hb2 hC k1 => ?_
  refine alc_at fun b3 w2 hb3 hO k2 => ?_
  simp only [add_mk, Nat.zero_add, Nat.add_zero]
  have l1 := hC.lt
  have z1 := k1.size
  have z2 := k2.size
  replace hC := hC.keep0 k2
  have hK := k1.then0 k2
  refine ldI_of (hC.cell 0) (ldI_of (hC.cell 1) (ldI_of (hC.cell 2) (ldF_of (hC.cell 3) (ldI_of (hC.cell 4) (ldI_of (hC.cell 5) ?_)))))
  refine cl_of ok13 (formed13 b f g d p q w2) fun e w3 ⟨he, k3⟩ => ⟨_, he, ?_⟩
  replace hK := hK.then0 k3
  replace hC := hC.keep0 k3
  replace hO := hO.keep0 k3
  have z3 := k3.size
  have l2 := hO.lt
  rcases Bool.eq_false_or_eq_true (formed b f g d p) with hf | hf
  · rw [hf]
    refine pif_f rfl ?_
    refine alc_at fun b18 w7 hb18 h18 k7 => ?_
    have l7 := h18.lt
    have z7 := k7.size
    refine alc_at fun b19 w8 hb19 h19 k8 => ?_
    have l8 := h19.lt
    have z8 := k8.size
    refine alc_at fun b20 w9 hb20 h20 k9 => ?_
    have l9 := h20.lt
    have z9 := k9.size
    replace h18 := (h18.keep0 k8).keep0 k9
    replace h19 := h19.keep0 k9
    replace hC := ((hC.keep0 k7).keep0 k8).keep0 k9
    replace hO := ((hO.keep0 k7).keep0 k8).keep0 k9
    replace hK := ((hK.then0 k7).then0 k8).then0 k9
    refine st_of h18 (by simp) rfl fun w10 h18 k10 e10 => ?_
    refine st_of (h19.keep1 k10 (by omega)) (by simp) rfl fun w11 h19 k11 e11 => ?_
    refine st_of ((h20.keep1 k10 (by omega)).keep1 k11 (by omega)) (by simp) rfl fun w12 h20 k12 e12 => ?_
    replace h18 := (h18.keep1 k11 (by omega)).keep1 k12 (by omega)
    replace h19 := h19.keep1 k12 (by omega)
    replace hC := ((hC.keep1 k10 (by omega)).keep1 k11 (by omega)).keep1 k12 (by omega)
    replace hO := ((hO.keep1 k10 (by omega)).keep1 k11 (by omega)).keep1 k12 (by omega)
    replace hK := ((hK.then1 k10 (by omega)).then1 k11 (by omega)).then1 k12 (by omega)
    refine alc_at fun b22 w13 hb22 h22 k13 => ?_
    have l13 := h22.lt
    have z13 := k13.size
    refine alc_at fun b23 w14 hb23 h23 k14 => ?_
    have l14 := h23.lt
    have z14 := k14.size
    replace h18 := (h18.keep0 k13).keep0 k14
    replace h19 := (h19.keep0 k13).keep0 k14
    replace h20 := (h20.keep0 k13).keep0 k14
    replace h22 := h22.keep0 k14
    replace hC := (hC.keep0 k13).keep0 k14
    replace hO := (hO.keep0 k13).keep0 k14
    replace hK := (hK.then0 k13).then0 k14
    refine st_of h22 (by simp) rfl fun w15 h22 k15 e15 => ?_
    refine st_of (h23.keep1 k15 (by omega)) (by simp) rfl fun w16 h23 k16 e16 => ?_
    refine st_of ((hO.keep1 k15 (by omega)).keep1 k16 (by omega)) (by simp) rfl fun w17 hO k17 e17 => ?_
    refine st_of hO (by simp) rfl fun w18 hO k18 e18 => ?_
    refine st_of hO (by simp) rfl fun w19 hO k19 e19 => ?_
    refine ldV_of (hO.cell 0) (ldV_of (hO.cell 1) (ldV_of (hO.cell 2) ?_))
    replace hK := ((((hK.then1 k15 (by omega)).then1 k16 (by omega)).then1 k17 (by omega)).then1 k18 (by omega)).then1 k19 (by omega)
    have kk : ∀ {bb : Nat} {cs : List Value} {t : TypeId}, bb ≠ b22 → bb ≠ b23 → bb ≠ b3 → Blk w14 bb cs t → Blk w19 bb cs t := fun h1 h2 h3 h =>
      ((((h.keep1 k15 h1).keep1 k16 h2).keep1 k17 h3).keep1 k18 h3).keep1 k19 h3
    have kk2 : ∀ {bb : Nat} {cs : List Value} {t : TypeId}, bb ≠ b23 → bb ≠ b3 → Blk w15 bb cs t → Blk w19 bb cs t := fun h2 h3 h =>
      (((h.keep1 k16 h2).keep1 k17 h3).keep1 k18 h3).keep1 k19 h3
    have kk3 : ∀ {bb : Nat} {cs : List Value} {t : TypeId}, bb ≠ b3 → Blk w16 bb cs t → Blk w19 bb cs t := fun h3 h =>
      ((h.keep1 k17 h3).keep1 k18 h3).keep1 k19 h3
    refine ⟨hK, Or.inr ⟨rfl, ⟨b2, b18, b19, b20, b22, b23⟩, by show w.heap.size ≤ b2; omega, ?_, rfl, ?_⟩⟩
    · unfold Ids.ok; dsimp only; omega
    · have g1 := kk (bb := b18) (by omega) (by omega) (by omega) h18
      have g2 := kk (bb := b19) (by omega) (by omega) (by omega) h19
      have g3 := kk (bb := b20) (by omega) (by omega) (by omega) h20
      have g4 := kk2 (bb := b22) (by omega) (by omega) h22
      have g5 := kk3 (bb := b23) (by omega) h23
      have g6 := kk (bb := b2) (by omega) (by omega) (by omega) hC
      exact ⟨g1, g2, g3, g4, g5, d, p, q, g6⟩
  · rw [hf]
    refine pif_t rfl ?_
    refine st_of hO (by simp) rfl fun w4 hO k4 _ => ?_
    refine st_of hO (by simp) rfl fun w5 hO k5 _ => ?_
    refine st_of hO (by simp) rfl fun w6 hO k6 _ => ?_
    refine ldV_of (hO.cell 0) (ldV_of (hO.cell 1) (ldV_of (hO.cell 2) ?_))
    exact ⟨((hK.then1 k4 (by omega)).then1 k5 (by omega)).then1 k6 (by omega), Or.inl ⟨rfl, rfl⟩⟩

def MadeM (c : Bool) (bs f g : Int) (w : World) (v : Value) (w' : World) : Prop := Keep None w w' ∧
  ((c = false ∧ v = .tuple #[.pointer none, I 1]) ∨ (c = true ∧ ∃ m, w.heap.size ≤ m ∧ m < w'.heap.size ∧ v = .tuple #[Pt m, I 0] ∧ MRep w' m bs f g 0 0 0 0))
theorem make19 (b f g : Int) (d : Nat) (p q : Int) (w : World) :
    Calls Try.prog 19 #[.agg #[I b, I f, I g, F d, I p, I q]] w fun e w' => ∃ v, e = .returned v ∧ MadeM (formed b f g d p) b f g w v w' := by
  refine V19_calls b f g d p q w (MadeM (formed b f g d p) b f g w) ?_
  unfold V19
  refine alc_at fun b2 w1 hb2 hC k1 => ?_
  simp only [add_mk, Nat.zero_add, Nat.add_zero]
  have l1 := hC.lt
  refine ldI_of (hC.cell 0) (ldI_of (hC.cell 1) (ldI_of (hC.cell 2) (ldF_of (hC.cell 3) (ldI_of (hC.cell 4) (ldI_of (hC.cell 5) ?_)))))
  refine cl_of ok14 (formed14 b f g d p q w1) fun e w3 ⟨he, k3⟩ => ⟨_, he, ?_⟩
  have hK := k1.then0 k3
  replace hC := hC.keep0 k3
  have z3 := hK.size
  rcases Bool.eq_false_or_eq_true (formed b f g d p) with hf | hf
  · rw [hf]
    refine pif_f rfl ?_
    refine ldI_of (hC.cell 0) (ldI_of (hC.cell 1) (ldI_of (hC.cell 2) (ldF_of (hC.cell 3) (ldI_of (hC.cell 4) (ldI_of (hC.cell 5) ?_)))))
    refine alc_at fun m w4 hm hM k4 => ?_
    exact ⟨hK.then0 k4, Or.inr ⟨rfl, m, by omega, hM.lt, rfl, d, p, q, hM⟩⟩
  · rw [hf]
    exact pif_t rfl ⟨hK, Or.inl ⟨rfl, rfl⟩⟩
end Go.Proofs.Ytkpoagdhekimpaa.Pace
