/- The document's heat: warmest, Take, Order, New. -/
import Derived.Test.YtfifgopmegbifaaHeatM
set_option linter.unusedVariables false
set_option linter.unusedSimpArgs false
set_option maxRecDepth 100000
namespace Go.Proofs.Ytfifgopmegbifaa.Heat
open Go Go.Proofs.Ytfifgopmegbifaa.Vc Go.Proofs.Ytfifgopmegbifaa.T
open Go.Proofs.Ytfifgopmegbifaa.Apart (RdL own_rdl wrap_nat Ls Sl sv Ag Lists getE own_len copy same apart take_snoc)

section
variable {n : Nat} {w w1 : World} {M : MI} {sc : List Nat} {step decay : Nat} {wb mb : List Bool}
/-- the warmest of the first k -/
def Best (sc : List Nat) (mb : List Bool) (k : Nat) (b : Int) : Prop :=
  (b = 0 ∧ ∀ u : Int, 1 ≤ u → u ≤ k → isIn mb u = false) ∨ ((1 ≤ b ∧ b ≤ k) ∧ isIn mb b = true ∧ ∀ u : Int, 1 ≤ u → u ≤ k → isIn mb u = true → bfw sc u b = false)
theorem best_step (hw : Wf n sc step decay wb) {k : Nat} (hk : k < n) {b : Int} (h : Best sc mb k b) :
    (isIn mb ((k : Int) + 1) = true → b = 0 → Best sc mb (k + 1) ((k : Int) + 1)) ∧
    (isIn mb ((k : Int) + 1) = true → b ≠ 0 → sc.getD (b - 1).toNat 0 < sc.getD k 0 → Best sc mb (k + 1) ((k : Int) + 1)) ∧
    (isIn mb ((k : Int) + 1) = true → b ≠ 0 → ¬ sc.getD (b - 1).toNat 0 < sc.getD k 0 → Best sc mb (k + 1) b) ∧
    (isIn mb ((k : Int) + 1) = false → Best sc mb (k + 1) b) := by
  have od := bfw_od hw.nn hw.scl
  have ek : ((k : Int) + 1 - 1).toNat = k := by omega
  have no : ∀ {v u : Int}, (1 ≤ v ∧ v ≤ n) → (1 ≤ u ∧ u ≤ n) → (bfw sc v u = false ↔ ¬ (sc.getD (u - 1).toNat 0 < sc.getD (v - 1).toNat 0 ∨ (sc.getD (u - 1).toNat 0 = sc.getD (v - 1).toNat 0 ∧ v < u))) := fun hv hu => by
    rw [← bfw_iff hw.nn hw.scl hv hu, Bool.not_eq_true]
  refine ⟨fun hi hb => ?_, fun hi hb hlt => ?_, fun hi hb hge => ?_, fun hi => ?_⟩
  · rcases h with ⟨_, h⟩ | ⟨h, _⟩
    · refine Or.inr ⟨by omega, hi, fun u u1 u2 hu => ?_⟩
      by_cases e : u = (k : Int) + 1
      · rw [e]; exact od.irr (by omega)
      · rw [h u u1 (by omega)] at hu; cases hu
    · omega
  · rcases h with ⟨h, _⟩ | ⟨hr, hin, h⟩
    · omega
    · refine Or.inr ⟨by omega, hi, fun u u1 u2 hu => ?_⟩
      by_cases e : u = (k : Int) + 1
      · rw [e]; exact od.irr (by omega)
      · have h1 := (no (by omega) (by omega)).1 (h u u1 (by omega) hu)
        rw [no (by omega) (by omega), ek]
        omega
  · rcases h with ⟨h, _⟩ | ⟨hr, hin, h⟩
    · omega
    · refine Or.inr ⟨by omega, hin, fun u u1 u2 hu => ?_⟩
      by_cases e : u = (k : Int) + 1
      · rw [e, no (by omega) (by omega), ek]; omega
      · exact h u u1 (by omega) hu
  · rcases h with ⟨hb, h⟩ | ⟨hr, hin, h⟩
    · refine Or.inl ⟨hb, fun u u1 u2 => ?_⟩
      by_cases e : u = (k : Int) + 1
      · rw [e]; exact hi
      · exact h u u1 (by omega)
    · refine Or.inr ⟨by omega, hin, fun u u1 u2 hu => ?_⟩
      by_cases e : u = (k : Int) + 1
      · rw [e, hi] at hu; cases hu
      · exact h u u1 (by omega) hu
theorem inA_in {u : Int} (h : 1 ≤ u ∧ u ≤ n) : inA n mb u = isIn mb u := by
  unfold inA
  rw [decide_eq_true h.1, decide_eq_true h.2]; rfl
theorem warm50 (h : MR n w M sc step decay wb) (hw : Wf n sc step decay wb) {q : Option Addr} {qc : Nat} (hq : Own w 4 1 q n qc (mb.map Value.bool)) :
    Calls Try.prog 50 #[.pointer (some ⟨M.h, 0, none⟩), .slice q n qc] w fun e w' => ∃ b : Int, e = .returned (I b) ∧ Keep None w w' ∧ ((b = 0 ∧ none' n mb) ∨ First n sc mb b) := by
  have hn := hw.small
  refine (V50_calls (some ⟨M.h, 0, none⟩) q n qc w (fun v w' => ∃ b : Int, v = I b ∧ Keep None w w' ∧ ((b = 0 ∧ none' n mb) ∨ First n sc mb b)) ?_).mono fun e w' ⟨v, he, b, hv, hk⟩ => ⟨b, by rw [he, hv], hk⟩
  unfold V50
  refine lp_of (fun s w' => ∃ k : Nat, s.2.1 = (k : Int) + 1 ∧ k ≤ n ∧ Keep None w w' ∧ Best sc mb k s.1) (fun s _ => (n + 1 - s.2.1).toNat)
    ⟨0, rfl, Nat.zero_le _, Keep.refl _ _, Or.inl ⟨rfl, fun u u1 u2 => by omega⟩⟩ ?_
  rintro ⟨b, v', ⟨⟩⟩ w1 ⟨k, rfl, hk, k1, hb⟩
  simp only [] at hb
  have h1 := h.keep0 k1
  refine nn_of ?_
  simp only [add_mk, Nat.add_zero, Nat.zero_add]
  refine ldC_of (h1.obj.cell 0) (pif_of (fun hlt => ?_) fun hge => ?_)
  · have hlt : k < n := by simp at hlt; omega
    have kd : Keep None w w1.drew := k1.drew
    have hd := h.keep0 kd
    have hqd := hq.keep0 kd
    obtain ⟨s1, s2, s3, s4⟩ := best_step (mb := mb) hw hlt hb
    have e1 : IntKind.wrap .i64 ((k : Int) + 1 - 1) = (k : Int) := by rw [IntKind.wrap_i64]; omega
    have e2 : IntKind.wrap .i64 ((k : Int) + 1 + 1) = ((k + 1 : Nat) : Int) + 1 := by rw [IntKind.wrap_i64]; omega
    have eI : isIn mb ((k : Int) + 1) = mb.getD k false := by unfold isIn; rw [show ((k : Int) + 1 - 1).toNat = k by omega]
    rw [eI] at s1 s2 s3 s4
    rw [e1, e2]
    refine ⟨fun s w' => Keep None w w' ∧ Best sc mb (k + 1) s.1, ?_, fun s w2 ⟨k2, hb2⟩ => ⟨⟨k + 1, rfl, hlt, k2, hb2⟩, by omega⟩⟩
    refine own_rdB hqd hlt fun a ha => ldB_of ha ?_
    generalize mb.getD k false = x at *
    cases x with
    | false => exact gd_f rfl (gd_f rfl (gd_f rfl (gd_f rfl (gd_f rfl (gd_f rfl (gd_f rfl (gd_f rfl (pif_f rfl ⟨kd, s4 rfl⟩))))))))
    | true =>
      by_cases hb0 : b = 0
      · subst hb0
        exact gd_f rfl (gd_f rfl (gd_f rfl (gd_f rfl (gd_f rfl (gd_f rfl (gd_f rfl (gd_f rfl (pif_t rfl ⟨kd, s1 rfl rfl⟩))))))))
      · have ec : (true && (!(b == 0))) = true := by simpa using hb0
        have hr : 1 ≤ b ∧ b ≤ k := by
          rcases hb with ⟨h, _⟩ | ⟨h, _⟩
          · exact absurd h hb0
          · exact h
        obtain ⟨e3, hbi⟩ := idx (n := n) (v := b) ⟨by omega, by omega⟩ hn
        refine gd_t ec (nn_of (gd_t ec ?_))
        simp only [add_mk, Nat.add_zero, Nat.zero_add]
        refine ldC_of (hd.obj.cell 0) (gd_t ec (hd.rdS hlt fun a2 ha2 => gd_t ec (ldF_of ha2 (gd_t ec (nn_of (gd_t ec ?_))))))
        simp only [add_mk, Nat.add_zero, Nat.zero_add]
        rw [e3]
        refine ldC_of (hd.obj.cell 0) (gd_t ec (hd.rdS hbi fun a3 ha3 => gd_t ec (ldF_of ha3 ?_)))
        have x1 := hw.nn _ (getD_mem (show k < sc.length by have := hw.scl; omega))
        have x2 := hw.nn _ (getD_mem (show (b - 1).toNat < sc.length by have := hw.scl; omega))
        have ho : (FloatKind.format .f64).order (sc.getD k 0) (sc.getD (b - 1).toNat 0) = some (compare (sc.getD k 0) (sc.getD (b - 1).toNat 0)) := Fl.ord x1 x2
        show pif (cond true (cond (b == 0) true ((FloatKind.format .f64).order (sc.getD k 0) (sc.getD (b - 1).toNat 0) == some .gt)) false) _ _
        rw [ho]
        have eb : (b == 0) = false := by simpa using hb0
        rw [eb]
        by_cases hgt : sc.getD (b - 1).toNat 0 < sc.getD k 0
        · rw [Nat.compare_eq_gt.2 hgt]
          exact pif_t rfl ⟨kd, s2 rfl hb0 hgt⟩
        · refine pif_f ?_ ⟨kd, s3 rfl hb0 hgt⟩
          rcases Nat.lt_or_ge (sc.getD k 0) (sc.getD (b - 1).toNat 0) with hh | hh
          · rw [Nat.compare_eq_lt.2 hh]; rfl
          · rw [Nat.compare_eq_eq.2 (by omega)]; rfl
  · have hge : k = n := by simp at hge; omega
    subst hge
    refine ⟨b, rfl, k1, ?_⟩
    rcases hb with ⟨hb, h⟩ | ⟨hr, hin, h⟩
    · refine Or.inl ⟨hb, fun u => ?_⟩
      cases hq : inA k mb u with
      | false => rfl
      | true =>
        have hr := inA_rng hq
        rw [inA_in hr, h u hr.1 hr.2] at hq; cases hq
    · refine Or.inr ⟨by rw [inA_in hr]; exact hin, fun u hu => ?_⟩
      have hr' := inA_rng hu
      rw [inA_in hr'] at hu
      exact h u hr'.1 hr'.2 hu
theorem take39 (h : MR n w M sc step decay wb) (hw : Wf n sc step decay wb) :
    Calls Try.prog 39 #[.pointer (some ⟨M.h, 0, none⟩)] w fun e w' => ∃ v, e = .returned v ∧
      ((none' n wb ∧ v = .tuple #[I 0, .bool false] ∧ Keep None w w') ∨ ∃ x : Int, First n sc wb x ∧ v = .tuple #[I x, .bool true] ∧ Keep M.F w w' ∧ MR n w' M sc step decay (wb.set (x - 1).toNat false)) := by
  refine V39_calls (some ⟨M.h, 0, none⟩) w (fun v w' => (none' n wb ∧ v = .tuple #[I 0, .bool false] ∧ Keep None w w') ∨ ∃ x : Int, First n sc wb x ∧ v = .tuple #[I x, .bool true] ∧ Keep M.F w w' ∧ MR n w' M sc step decay (wb.set (x - 1).toNat false)) ?_
  unfold V39
  have hn := hw.small
  refine nn_of ?_
  simp only [add_mk, Nat.add_zero, Nat.zero_add]
  refine ldC_of (h.obj.cell 1) (cl_of ok50 (warm50 h hw h.within) fun e w1 ⟨b, he, k1, hb⟩ => ⟨b, he, ?_⟩)
  have h1 := h.keep0 k1
  rcases hb with ⟨rfl, hno⟩ | hF
  · exact pif_t rfl (Or.inl ⟨hno, by first | rfl | trivial, k1⟩)
  · have hr := inA_rng hF.1
    refine pif_f (by simp; omega) (nn_of ?_)
    simp only [add_mk, Nat.add_zero, Nat.zero_add]
    obtain ⟨e2, hi⟩ := idx hr hn
    rw [e2]
    exact ldC_of (h1.obj.cell 1) (h1.setW hi fun w2 h2 k2 => Or.inr ⟨b, hF, by first | rfl | trivial, k1.none.trans k2 fun i _ h => h, h2⟩)
end
end Go.Proofs.Ytfifgopmegbifaa.Heat
