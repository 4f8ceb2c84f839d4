/- HeatScript: one call of both heats; both held against one another. -/
import Derived.Test.YtfifgopmegbifaaHeatQ
set_option linter.unusedVariables false
set_option linter.unusedSimpArgs false
set_option maxRecDepth 100000
namespace Go.Proofs.Ytfifgopmegbifaa.Heat
open Go Go.Proofs.Ytfifgopmegbifaa.Vc Go.Proofs.Ytfifgopmegbifaa.T
open Go.Proofs.Ytfifgopmegbifaa.Apart (RdL own_rdl wrap_nat Ls Sl sv Ag Lists getE own_len copy same apart take_snoc)

theorem cl_of_cl {P : Program} {k : FuncId} {args : List Value} {w : World} {R R' : Ending → World → Prop} (h : cl P k args w R') (hr : ∀ e w', R' e w' → R e w') : cl P k args w R := ⟨h.1, h.2.mono hr⟩
theorem fl_self {x : Nat} (h : x ≤ Fl.Inf) : ((FloatKind.format .f64).order x x != some .eq) = false ∧ ((FloatKind.format .f64).order x x == some .eq) = true := by
  have : (FloatKind.format .f64).order x x = some (compare x x) := Fl.ord h h
  rw [this, Nat.compare_eq_eq.2 rfl]; exact ⟨rfl, rfl⟩
def PF (Q : HI) (M : MI) (i : Nat) : Prop := Q.F i ∨ M.F i
/-- both heats -/
structure B2 (n : Nat) (w : World) (Q : HI) (M : MI) (sc : List Nat) (step decay : Nat) (wb : List Bool) : Prop where
  ph : PH n w Q sc step decay wb
  mr : MR n w M sc step decay wb
  dis : ∀ i, Q.F i → ¬ M.F i
def Pr (w : World) (Q : HI) (M : MI) : Prop := ∃ n sc step decay wb, B2 n w Q M sc step decay wb
section
variable {n : Nat} {w w1 : World} {Q : HI} {M : MI} {sc : List Nat} {step decay : Nat} {wb : List Bool}
theorem B2.keep {S : Nat → Prop} (h : B2 n w Q M sc step decay wb) (hk : Keep S w w1) (hn : ∀ i, PF Q M i → ¬ S i) : B2 n w1 Q M sc step decay wb :=
  ⟨h.ph.keep hk fun i hi => hn i (Or.inl hi), h.mr.keep hk fun i hi => hn i (Or.inr hi), h.dis⟩
theorem B2.keep0 (h : B2 n w Q M sc step decay wb) (hk : Keep None w w1) : B2 n w1 Q M sc step decay wb := h.keep hk fun _ _ h => h
theorem B2.lt (h : B2 n w Q M sc step decay wb) : ∀ i, PF Q M i → i < w.heap.size := fun i hi => hi.elim (h.ph.lt i) (h.mr.lt i)
theorem Pr.keep {S : Nat → Prop} (h : Pr w Q M) (hk : Keep S w w1) (hn : ∀ i, PF Q M i → ¬ S i) : Pr w1 Q M := by
  obtain ⟨n, sc, step, decay, wb, h⟩ := h
  exact ⟨n, sc, step, decay, wb, h.keep hk hn⟩
theorem Pr.keep0 (h : Pr w Q M) (hk : Keep None w w1) : Pr w1 Q M := h.keep hk fun _ _ h => h
theorem Pr.lt (h : Pr w Q M) : ∀ i, PF Q M i → i < w.heap.size := by
  obtain ⟨n, sc, step, decay, wb, h⟩ := h
  exact h.lt
theorem B2.cool (h : B2 n w Q M sc step decay wb) : cl Try.prog 14 [.pointer (some ⟨Q.h, 0, none⟩)] w fun e25 w7 => e25 = Ending.returned (.tuple #[]) ∧
    cl Try.prog 38 [.pointer (some ⟨M.h, 0, none⟩)] w7 fun e27 w8 => e27 = Ending.returned (.tuple #[]) ∧ Keep (PF Q M) w w8 ∧ B2 n w8 Q M (coolS sc step decay).1 (coolS sc step decay).2 decay wb := by
  have hw := h.ph.wf
  refine cl_of ok14 h.ph.cool fun e w2 ⟨he, k2, h2⟩ => ⟨he, ?_⟩
  have hm := h.mr.keep k2 fun i hi hh => h.dis i hh hi
  refine cl_of ok38 (cool38 hm hw) fun e w3 ⟨he, k3, h3⟩ => ⟨he, ?_, h2.keep k3 fun i hi hh => h.dis i hi hh, h3, h.dis⟩
  exact (k2.mono fun i _ hi => Or.inl hi).trans k3 fun i _ hi => Or.inr hi
theorem B2.orders (h : B2 n w Q M sc step decay wb) : cl Try.prog 15 [.pointer (some ⟨Q.h, 0, none⟩)] w fun e70 w17 => ∃ (x69 : Option Addr) (x69n x69c : Nat), e70 = Ending.returned (.slice x69 x69n x69c) ∧
    cl Try.prog 43 [.pointer (some ⟨M.h, 0, none⟩)] w17 fun e72 w18 => ∃ (x71 : Option Addr) (x71n x71c : Nat), e72 = Ending.returned (.slice x71 x71n x71c) ∧
    cl Try.prog 18 [.slice x69 x69n x69c, .slice x71 x71n x71c] w18 fun e74 w19 => ∃ x73 : Bool, e74 = Ending.returned (.bool x73) ∧ x73 = true ∧ Keep None w w19 := by
  have hw := h.ph.wf
  have hs := hw.small
  refine cl_of ok15 (PHorder2 h.ph) fun e w2 ⟨a, R, he, la, hR, hO, hn, k2⟩ => ⟨a.1, a.2.1, a.2.2, he, ?_⟩
  have h2 := h.keep0 k2
  refine cl_of ok43 (order43 h2.mr hw) fun e w3 ⟨v, he, q, c, R2, hv, hO2, hn2, k3, hR2⟩ => ⟨q, R2.length, c, he.trans (congrArg Ending.returned hv), ?_⟩
  obtain rfl := hR.unique hw hR2
  have hl := ordl_len hR
  exact cl_of ok18 (same (own_rdl (hO.keep0 k3)) (own_rdl hO2) (by rw [la]; omega)) fun e w4 ⟨he, k4⟩ => ⟨_, he, decide_eq_true rfl, (k2.then0 k3).then0 k4⟩
theorem whole22 (h : Pr w Q M) : Calls Try.prog 22 #[.pointer (some ⟨Q.h, 0, none⟩), .pointer (some ⟨M.h, 0, none⟩)] w fun e w' => e = .returned (.bool true) ∧ Keep None w w' := by
  obtain ⟨n, sc, step, decay, wb, h⟩ := h
  refine out_of (R := fun w' => Keep None w w') (V22_calls (some ⟨Q.h, 0, none⟩) (some ⟨M.h, 0, none⟩) w (Out _ _) ?_)
  unfold V22
  have hw := h.ph.wf
  have hs := hw.small
  refine lp_of (fun s w' => ∃ i : Nat, s.1 = (i : Int) ∧ i ≤ n + 2 ∧ w' = w) (fun s _ => (n + 2 - s.1).toNat) ⟨0, rfl, by omega, rfl⟩ ?_
  rintro ⟨i', ⟨⟩⟩ w1 ⟨i, rfl, hi, rfl⟩
  refine nn_of ?_
  simp only [add_mk, Nat.add_zero, Nat.zero_add]
  rw [wrap_nat i (by omega)]
  refine ldC_of (h.mr.obj.cell 0) ?_
  rw [wrap_nat n (by omega)]
  refine pif_of (fun hlt => ?_) fun hge => ?_
  · have hlt : i ≤ n + 1 := by simp at hlt; omega
    have hsc : (if 1 ≤ (i : Int) ∧ (i : Int) ≤ n then Value.tuple #[F (sc.getD ((i : Int) - 1).toNat 0), I 0] else .tuple #[F 0, I 2]) = .tuple #[F (if 1 ≤ (i : Int) ∧ (i : Int) ≤ n then sc.getD ((i : Int) - 1).toNat 0 else 0), I (if 1 ≤ (i : Int) ∧ (i : Int) ≤ n then 0 else 2)] := by
      split <;> rfl
    have hle : (if 1 ≤ (i : Int) ∧ (i : Int) ≤ n then sc.getD ((i : Int) - 1).toNat 0 else 0) ≤ Fl.Inf := by
      split
      · exact hw.nn _ (getD_mem (by have := hw.scl; omega))
      · exact Nat.zero_le _
    refine cl_of ok11 (h.ph.score i) fun e w2 ⟨hw2, he⟩ => ⟨_, _, he.trans (congrArg Ending.returned hsc), ?_⟩
    subst hw2
    refine cl_of ok42 (score42 h.mr hs i) fun e w3 ⟨he, hw3⟩ => ⟨_, _, he.trans (congrArg Ending.returned hsc), ?_⟩
    subst hw3
    rw [(fl_self hle).1]
    have ec : ∀ z : Int, (!(cond false true (z != z))) = true := fun z => by simp
    refine gd_t (ec _) (cl_of ok10 (h.ph.isin i) fun e w4 ⟨he, hw4⟩ => ⟨_, he, ?_⟩)
    subst hw4
    refine gd_t (ec _) (cl_of ok41 (in41 h.mr hs i) fun e w5 ⟨he, hw5⟩ => ⟨_, he, ?_⟩)
    subst hw5
    exact pif_f (by simp) ⟨⟨i + 1, rfl, by omega, rfl⟩, by omega⟩
  · refine cl_of_cl h.orders fun e w2 ⟨a, b, c, he, hh⟩ => ⟨a, b, c, he, cl_of_cl hh fun e w3 ⟨a, b, c, he, hh⟩ => ⟨a, b, c, he, cl_of_cl hh fun e w4 ⟨x, he, hx, k⟩ => ⟨x, he, by rw [hx]; exact ⟨rfl, k⟩⟩⟩⟩
theorem score_tup (sc : List Nat) (n : Nat) (i : Int) : (if 1 ≤ i ∧ i ≤ n then Value.tuple #[F (sc.getD (i - 1).toNat 0), I 0] else .tuple #[F 0, I 2]) = .tuple #[F (if 1 ≤ i ∧ i ≤ n then sc.getD (i - 1).toNat 0 else 0), I (if 1 ≤ i ∧ i ≤ n then 0 else 2)] := by
  split <;> rfl
theorem score_le {n : Nat} {sc : List Nat} {step decay : Nat} {wb : List Bool} (hw : Wf n sc step decay wb) (i : Int) : (if 1 ≤ i ∧ i ≤ n then sc.getD (i - 1).toNat 0 else 0) ≤ Fl.Inf := by
  split
  · exact hw.nn _ (getD_mem (by have := hw.scl; omega))
  · exact Nat.zero_le _
theorem step21 (h : Pr w Q M) {on kd x : Int} (hk : i64 kd) (hx : i64 x) :
    Calls Try.prog 21 #[.pointer (some ⟨Q.h, 0, none⟩), .pointer (some ⟨M.h, 0, none⟩), .agg #[I on, I kd, I x]] w fun e w' => e = .returned (.bool true) ∧ Keep (PF Q M) w w' ∧ Pr w' Q M := by
  obtain ⟨n, sc, step, decay, wb, h0⟩ := h
  refine out_of (R := fun w' => Keep (PF Q M) w w' ∧ Pr w' Q M) (V21_calls (some ⟨Q.h, 0, none⟩) (some ⟨M.h, 0, none⟩) on kd x w (Out _ _) ?_)
  unfold V21
  have hlt := h0.lt
  refine alc_at fun b w1 hb hB k1 => ?_
  simp only [add_mk, Nat.add_zero, Nat.zero_add]
  have h := h0.keep0 k1
  have hw := h.ph.wf
  have hs := hw.small
  have hbn : ∀ {i : Nat}, PF Q M i → b ≠ i := fun hi => by have := hlt _ hi; omega
  have kQ : ∀ {wa wb : World}, Keep Q.F wa wb → Keep (PF Q M) wa wb := fun k => k.mono fun i _ hi => Or.inl hi
  have kM : ∀ {wa wb : World}, Keep M.F wa wb → Keep (PF Q M) wa wb := fun k => k.mono fun i _ hi => Or.inr hi
  have thn : ∀ {wa wb wc : World}, Keep (PF Q M) wa wb → Keep (PF Q M) wb wc → Keep (PF Q M) wa wc := fun k k' => k.trans k' fun i _ h => h
  refine ldI_of (hB.cell 1) (cl_of ok12 (pick12 kd 7 w1 hk (by omega)) fun e w2 ⟨he, hw2⟩ => ⟨_, he, ?_⟩)
  subst hw2
  have kd1 : Keep (PF Q M) w w2.drew := k1.drew.none
  have hd : B2 n w2.drew Q M sc step decay wb := h.keep0 (Keep.refl None w2).drew
  have hBd : Blk w2.drew b [I on, I kd, I x] 56 := hB.drew
  refine pif_of (fun _ => ?_) fun _ => ?_
  · refine ldI_of (hBd.cell 2) (ldI_of (hBd.cell 2) ?_)
    by_cases hv : 1 ≤ x ∧ x ≤ n
    · refine cl_of ok13 (hd.ph.bump hv) fun e w3 ⟨he, k3, h3⟩ => ⟨_, he, ldI_of ((hBd.keep k3 fun hh => hbn (Or.inl hh) rfl).cell 2) rfl, ?_⟩
      have hm := hd.mr.keep k3 fun i hi hh => h0.dis i hh hi
      refine cl_of ok37 (bump37 hm hw x) fun e w4 hh => ?_
      simp only [if_pos hv] at hh
      obtain ⟨he, k4, h4⟩ := hh
      refine ⟨_, he, rfl, thn kd1 (thn (kQ k3) (kM k4)), n, _, _, _, _, h3.keep k4 fun i hi hh => h0.dis i hi hh, h4, h0.dis⟩
    · refine cl_of ok13 (hd.ph.bump_out hv) fun e w3 ⟨he, hw3⟩ => ⟨_, he, ldI_of (by rw [hw3]; exact hBd.cell 2) rfl, ?_⟩
      subst hw3
      refine cl_of ok37 (bump37 hd.mr hw x) fun e w4 hh => ?_
      simp only [if_neg hv] at hh
      obtain ⟨he, k4⟩ := hh
      exact ⟨_, he, rfl, thn kd1 k4.none, n, _, _, _, _, hd.keep0 k4⟩
  refine pif_of (fun _ => ?_) fun _ => ?_
  · have m2 := Int.emod_lt_of_pos x (show (0 : Int) < 400 by omega)
    refine lp_of (fun s w' => ∃ i : Nat, s.1 = (i : Int) ∧ i ≤ 400 ∧ Keep (PF Q M) w2 w' ∧ ∃ sc step, B2 n w' Q M sc step decay wb) (fun s _ => (400 - s.1).toNat) ⟨0, rfl, by omega, Keep.refl _ _, sc, step, h⟩ ?_
    rintro ⟨i', ⟨⟩⟩ w3 ⟨i, rfl, hi, k3, sc3, step3, h3⟩
    simp only []
    refine ldI_of ((hB.keep k3 fun hh => hbn hh rfl).cell 2) (cl_of ok12 (pick12 x 400 w3 hx (by omega)) fun e w4 ⟨he, hw4⟩ => ⟨_, he, ?_⟩)
    subst hw4
    refine pif_of (fun hlt' => ?_) fun _ => ⟨rfl, thn k1.none k3, n, _, _, _, _, h3⟩
    have hlt' : (i : Int) < x % 400 := by simpa using hlt'
    rw [wrap_nat i (by omega)]
    refine cl_of_cl h3.cool fun e w5 ⟨he, hh⟩ => ⟨he, cl_of_cl hh fun e w6 ⟨he, k6, h6⟩ => ⟨he, ⟨i + 1, rfl, by omega, thn k3 k6, _, _, h6⟩, by omega⟩⟩
  refine pif_of (fun _ => ?_) fun _ => ?_
  · refine cl_of ok25 h.ph.take fun e w3 ⟨v, he, ht⟩ => ?_
    rcases ht with ⟨hno, rfl, rfl⟩ | ⟨y, hy, rfl, k3, h3⟩
    · refine ⟨_, _, he, cl_of ok39 (take39 h.mr hw) fun e w4 ⟨v, he, ht⟩ => ?_⟩
      rcases ht with ⟨_, rfl, k4⟩ | ⟨z, hz, _⟩
      · exact ⟨_, _, he, rfl, thn k1.none k4.none, n, _, _, _, _, h.keep0 k4⟩
      · have := hz.1; rw [hno z] at this; cases this
    · refine ⟨_, _, he, cl_of ok39 (take39 (h.mr.keep k3 fun i hi hh => h0.dis i hh hi) hw) fun e w4 ⟨v, he, ht⟩ => ?_⟩
      rcases ht with ⟨hno, _, _⟩ | ⟨z, hz, rfl, k4, h4⟩
      · have := hy.1; rw [hno y] at this; cases this
      · obtain rfl := hy.unique hw hz
        exact ⟨_, _, he, by simp, thn k1.none (thn (kQ k3) (kM k4)), n, _, _, _, _, h3.keep k4 fun i hi hh => h0.dis i hi hh, h4, h0.dis⟩
  refine pif_of (fun _ => ?_) fun _ => ?_
  · refine ldI_of (hBd.cell 2) (ldI_of (hBd.cell 2) (cl_of ok26 (hd.ph.put x) fun e w3 ht => ?_))
    have go := put40 hd.mr hs x
    rcases ht with ⟨hno, he, rfl⟩ | ⟨hin, he, rfl⟩ | ⟨hr, hin, he, k3, h3⟩
    · refine ⟨_, he, ldI_of (hBd.cell 2) rfl, cl_of ok40 (put40 hd.mr hs x) fun e w4 ht => ?_⟩
      rcases ht with ⟨_, he, rfl⟩ | ⟨hin, _⟩ | ⟨hr, _⟩
      · exact ⟨_, he, rfl, kd1, n, _, _, _, _, hd⟩
      · exact absurd (inA_rng hin) hno
      · exact absurd hr hno
    · refine ⟨_, he, ldI_of (hBd.cell 2) rfl, cl_of ok40 (put40 hd.mr hs x) fun e w4 ht => ?_⟩
      rcases ht with ⟨hno, _⟩ | ⟨_, he, rfl⟩ | ⟨_, hno, _⟩
      · exact absurd (inA_rng hin) hno
      · exact ⟨_, he, rfl, kd1, n, _, _, _, _, hd⟩
      · rw [hin] at hno; cases hno
    · refine ⟨_, he, ldI_of ((hBd.keep k3 fun hh => hbn (Or.inl hh) rfl).cell 2) rfl, cl_of ok40 (put40 (hd.mr.keep k3 fun i hi hh => h0.dis i hh hi) hs x) fun e w4 ht => ?_⟩
      rcases ht with ⟨hno, _⟩ | ⟨hin', _⟩ | ⟨_, _, he, k4, h4⟩
      · exact absurd hr hno
      · rw [hin] at hin'; cases hin'
      · exact ⟨_, he, rfl, thn kd1 (thn (kQ k3) (kM k4)), n, _, _, _, _, h3.keep k4 fun i hi hh => h0.dis i hi hh, h4, h0.dis⟩
  refine pif_of (fun _ => ?_) fun _ => ?_
  · refine ldI_of (hBd.cell 2) (ldI_of (hBd.cell 2) (cl_of ok10 (hd.ph.isin x) fun e w3 ⟨he, hw3⟩ => ⟨_, he, ldI_of (by rw [hw3]; exact hBd.cell 2) rfl, ?_⟩))
    subst hw3
    refine cl_of ok41 (in41 hd.mr hs x) fun e w4 ⟨he, hw4⟩ => ⟨_, he, ?_⟩
    subst hw4
    exact ⟨by simp, kd1, n, _, _, _, _, hd⟩
  refine pif_of (fun _ => ?_) fun _ => ?_
  · refine ldI_of (hB.cell 2) (cl_of ok11 (h.ph.score x) fun e w3 ⟨hw3, he⟩ => ⟨_, _, he.trans (congrArg Ending.returned (score_tup sc n x)), ?_⟩)
    subst hw3
    refine ldI_of (hB.cell 2) (cl_of ok42 (score42 h.mr hs x) fun e w4 ⟨he, hw4⟩ => ⟨_, _, he.trans (congrArg Ending.returned (score_tup sc n x)), ?_⟩)
    subst hw4
    rw [(fl_self (score_le hw x)).2]
    exact ⟨by simp, k1.none, n, _, _, _, _, h⟩
  · refine cl_of_cl h.orders fun e w2 ⟨a, b, c, he, hh⟩ => ⟨a, b, c, he, cl_of_cl hh fun e w3 ⟨a, b, c, he, hh⟩ => ⟨a, b, c, he, cl_of_cl hh fun e w4 ⟨x, he, hx, k⟩ => ⟨x, he, by rw [hx]; exact ⟨rfl, (k1.then0 k).none, n, _, _, _, _, h.keep0 k⟩⟩⟩⟩
end
end Go.Proofs.Ytfifgopmegbifaa.Heat
