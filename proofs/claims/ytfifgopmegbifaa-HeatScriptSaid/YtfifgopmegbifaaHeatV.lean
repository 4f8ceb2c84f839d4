/- HeatScript: the law's walk. -/
import Derived.Test.YtfifgopmegbifaaHeatT
set_option linter.unusedVariables false
set_option linter.unusedSimpArgs false
set_option maxRecDepth 100000
namespace Go.Proofs.Ytfifgopmegbifaa.Heat
open Go Go.Proofs.Ytfifgopmegbifaa.Vc Go.Proofs.Ytfifgopmegbifaa.T
open Go.Proofs.Ytfifgopmegbifaa.Apart (RdL own_rdl wrap_nat Ls Sl sv Ag Lists getE own_len copy same apart take_snoc)

abbrev P (h : Nat) : Value := .pointer (some ⟨h, 0, none⟩)
theorem pair_of {n : Nat} {d : Nat} {w w1 w2 : World} {Q : HI} {M : MI} (k1 : Keep None w w1) (ho : Q.old w) (hP : PH n w1 Q (List.replicate n 0) one d (List.replicate n true))
    (k2 : Keep None w1 w2) (hF : ∀ i, M.F i → w1.heap.size ≤ i) (hM : MR n w2 M (List.replicate n 0) one d (List.replicate n true)) : Keep None w w2 ∧ Pr w2 Q M ∧ ∀ i, PF Q M i → w.heap.size ≤ i := by
  have hl := hP.lt
  refine ⟨k1.then0 k2, ⟨n, _, _, _, _, hP.keep0 k2, hM, fun i hi hh => by have := hl i hi; have := hF i hh; omega⟩, fun i hi => ?_⟩
  rcases hi with hi | hi
  · exact ho i hi
  · have := hF i hi; have := k1.size; omega
/-- as far as the heats are made -/
structure Mk (w0 w3 w : World) (b4 b6 : Nat) (L : List (HI × MI)) : Prop where
  keep : Keep None w0 w
  size : w3.heap.size ≤ w.heap.size
  p4 : Blk w b4 (L.map (fun x => P x.1.h) ++ List.replicate (2 - L.length) (.pointer none)) 50
  p6 : Blk w b6 (L.map (fun x => P x.2.h) ++ List.replicate (2 - L.length) (.pointer none)) 52
  pr : ∀ x ∈ L, Pr w x.1 x.2 ∧ ∀ i, PF x.1 x.2 i → w3.heap.size ≤ i
  dis : L.Pairwise fun x y => ∀ i, PF x.1 x.2 i → ¬ PF y.1 y.2 i
theorem rep_set {k : Nat} {A : List Value} {v z : Value} (hk : k < 2) (hA : A.length = k) : (A ++ List.replicate (2 - k) z).set k v = (A ++ [v]) ++ List.replicate (2 - (k + 1)) z := by
  rw [List.set_append_right _ _ (by omega), hA, Nat.sub_self, show 2 - k = (2 - (k + 1)) + 1 by omega, List.replicate_succ]
  simp
theorem law7 (v0 v1 : Int) (d0 d1 : Nat) (sp : Option Addr) (m c : Nat) (w : World) (r0 : i64 v0) (r1 : i64 v1) (hm : m ≤ 9223372036854775807) (hS : OpL w sp m) :
    Calls Try.prog 7 #[.agg #[I v0, I v1, F d0, F d1, .slice sp m c]] w fun e w' => e = .returned (.bool true) ∧ RowKit.Below w.heap.size w w' := by
  refine (out_of (R := fun w' => Keep None w w') (V7_calls v0 v1 d0 d1 sp m c w (Out _ _) ?_)).mono fun e w' ⟨he, hk⟩ => ⟨he, hk.below0⟩
  unfold V7
  refine alc_at fun b2 w1 hb2 hB2 k1 => alc_at fun b4 w2 hb4 hB4 k2 => alc_at fun b6 w3 hb6 hB6 k3 => ?_
  simp only [add_mk, Nat.add_zero, Nat.zero_add]
  have z1 := k1.size
  have z2 := k2.size
  have z3 := k3.size
  have l2 := hB2.lt
  have l4 := hB4.lt
  have l6 := hB6.lt
  have hB2 := (hB2.keep0 k2).keep0 k3
  have hB4 := hB4.keep0 k3
  have k03 := (k1.then0 k2).then0 k3
  refine lp_of (fun s w' => ∃ L : List (HI × MI), s.1 = (L.length : Int) ∧ L.length ≤ 2 ∧ Mk w w3 w' b4 b6 L ∧ Blk w' b2 [I v0, I v1, F d0, F d1, .slice sp m c] 49) (fun s _ => (2 - s.1).toNat)
    ⟨[], rfl, by simp, ⟨k03, Nat.le_refl _, hB4, hB6, (fun x hx => by cases hx), List.Pairwise.nil⟩, hB2⟩ ?_
  rintro ⟨k', ⟨⟩⟩ w4 ⟨L, rfl, hL, hK, hB2⟩
  simp only []
  refine pif_of (fun hlt => ?_) fun hge => ?_
  · have hlt : L.length < 2 := by simp at hlt; omega
    rw [wrap_nat L.length (by omega)]
    have hN : ∃ N, i64 N ∧ ([I v0, I v1, F d0, F d1, .slice sp m c] : List Value)[L.length]? = some (I N) := by
      match L.length, hlt with
      | 0, _ => exact ⟨v0, r0, rfl⟩
      | 1, _ => exact ⟨v1, r1, rfl⟩
    have hD : ∃ D, ([I v0, I v1, F d0, F d1, .slice sp m c] : List Value)[2 + L.length]? = some (F D) := by
      match L.length, hlt with
      | 0, _ => exact ⟨d0, rfl⟩
      | 1, _ => exact ⟨d1, rfl⟩
    obtain ⟨N, hN, eN⟩ := hN
    obtain ⟨D, eD⟩ := hD
    refine ixA_of1 (by omega) (by omega) (ldI_of (by rw [hB2.cell, Int.toNat_natCast]; exact eN) (cl_of ok12 (pick12 N 2001 w4 hN (by omega)) fun e w5 ⟨he, hw5⟩ => ⟨_, he, ?_⟩))
    subst hw5
    have m1 := Int.emod_nonneg N (show (2001 : Int) ≠ 0 by omega)
    have m2 := Int.emod_lt_of_pos N (show (0 : Int) < 2001 by omega)
    have hn : N % 2001 = ((N % 2001).toNat : Int) := by omega
    rw [hn]
    have hn2 : (N % 2001).toNat ≤ 2000 := by omega
    generalize (N % 2001).toNat = n at *
    have rdD : ∀ {w' : World} {K : Nat → Prop}, Keep None w5 w' → K D → ixA (some ⟨b2, 2, none⟩) 2 (L.length : Int) 1 fun p => ldF .f64 w' p K := fun k hK' => by
      refine ixA_of (by omega) (by omega) (ldF_of ?_ hK')
      rw [(hB2.keep0 k).cell, Int.toNat_natCast, Nat.mul_one]; exact eD
    refine rdD (Keep.refl _ _) (cl_of ok9 (new9 n D w5 (by omega)) fun e w6 ⟨v, he, hv⟩ => ?_)
    -- what both make
    have fin : ∀ {Q : HI} {M : MI} {w7 : World}, (Keep None w5 w7 ∧ Pr w7 Q M ∧ ∀ i, PF Q M i → w5.heap.size ≤ i) → 
        ixA (some (⟨b4, 0, none⟩ : Addr)) 2 (L.length : Int) 1 fun p47 => st w7 (p47.add 0) (P Q.h) fun w11 =>
        ixA (some (⟨b6, 0, none⟩ : Addr)) 2 (L.length : Int) 1 fun p49 => st w11 (p49.add 0) (P M.h) fun w12 =>
        (∃ L' : List (HI × MI), ((L.length + 1 : Nat) : Int) = (L'.length : Int) ∧ L'.length ≤ 2 ∧ Mk w w3 w12 b4 b6 L' ∧ Blk w12 b2 [I v0, I v1, F d0, F d1, .slice sp m c] 49) ∧ (2 - ((L.length + 1 : Nat) : Int)).toNat < (2 - (L.length : Int)).toNat := by
      intro Q M w7 ⟨k7, hP, hF⟩
      refine ixA_of1 (by omega) (by omega) ?_
      simp only [add_mk, Nat.add_zero, Int.toNat_natCast]
      refine st_of (hK.p4.keep0 k7) (by simp; omega) rfl fun w8 h8 k8 _ => ixA_of1 (by omega) (by omega) ?_
      simp only [add_mk, Nat.add_zero, Int.toNat_natCast]
      refine st_of ((hK.p6.keep0 k7).keep1 k8 (by omega)) (by simp; omega) rfl fun w9 h9 k9 _ => ⟨⟨L ++ [(Q, M)], by simp, by simp; omega, ⟨?_, ?_, ?_, ?_, fun x hx => ?_, ?_⟩, ?_⟩, by omega⟩
      · exact ((hK.keep.then0 k7).then1 k8 (by omega)).then1 k9 (by omega)
      · have := hK.size; have := k7.size; have := k8.size; have := k9.size; omega
      · rw [rep_set hlt (by simp)] at h8
        have := h8.keep1 k9 (by omega)
        simpa using this
      · rw [rep_set hlt (by simp)] at h9
        simpa using h9
      · rcases List.mem_append.1 hx with hx | hx
        · obtain ⟨h1, h2⟩ := hK.pr x hx
          refine ⟨?_, h2⟩
          have h1 := h1.keep0 k7
          refine (h1.keep k8 fun i hi hh => ?_).keep k9 fun i hi hh => ?_
          · have := h2 i hi; have : i = b4 := hh; omega
          · have := h2 i hi; have : i = b6 := hh; omega
        · simp only [List.mem_singleton] at hx
          subst hx
          refine ⟨(hP.keep k8 fun i hi hh => ?_).keep k9 fun i hi hh => ?_, fun i hi => ?_⟩
          · have := hF i hi; have := hK.size; have : i = b4 := hh; omega
          · have := hF i hi; have := hK.size; have : i = b6 := hh; omega
          · have := hF i hi; have := hK.size; omega
      · rw [List.pairwise_append]
        refine ⟨hK.dis, by simp, fun x hx y hy i hi hh => ?_⟩
        simp only [List.mem_singleton] at hy
        subst hy
        have := (hK.pr x hx).1.lt i hi
        have := hF i hh
        omega
      · exact ((hB2.keep0 k7).keep1 k8 (by omega)).keep1 k9 (by omega)
    cases hf : fine n D with
    | true =>
      obtain ⟨Q, rfl, k6, hold, hP⟩ := made hv hf
      refine ⟨_, _, he, rdD k6 (cl_of ok20 (new20 n D w6) fun e w7 ⟨v, he, hv⟩ => ?_)⟩
      rcases hv with ⟨hf', _⟩ | ⟨_, M, rfl, k7, hF, hM⟩
      · rw [hf] at hf'; cases hf'
      rw [Int.toNat_natCast] at hM
      refine ⟨_, _, he, pif_f rfl ⟨fun s w' => s = (some ⟨Q.h, 0, none⟩, some ⟨M.h, 0, none⟩, ()) ∧ w' = w7, pif_f rfl ⟨rfl, rfl⟩, ?_⟩⟩
      rintro s w8 ⟨rfl, rfl⟩
      exact fin (pair_of k6 hold hP k7 hF hM)
    | false =>
      obtain ⟨k6, hv⟩ := hv
      obtain ⟨_, rfl⟩ := hv.resolve_right fun ⟨hf', _⟩ => by rw [hf] at hf'; cases hf'
      refine ⟨_, _, he, rdD k6 (cl_of ok20 (new20 n D w6) fun e w7 ⟨v, he, hv⟩ => ?_)⟩
      obtain ⟨_, rfl, k7⟩ := hv.resolve_right fun ⟨hf', _⟩ => by rw [hf] at hf'; cases hf'
      have hf3 : fine ((3 : Nat) : Int) 4606732058837280358 = true := by decide +kernel
      refine ⟨_, _, he, pif_f rfl ⟨fun s w' => ∃ Q M, s = (some ⟨Q.h, 0, none⟩, some ⟨M.h, 0, none⟩, ()) ∧ Keep None w7 w' ∧ Pr w' Q M ∧ ∀ i, PF Q M i → w7.heap.size ≤ i, pif_t rfl ?_, ?_⟩⟩
      · refine cl_of ok9 (new9 3 4606732058837280358 w7 (by omega)) fun e w8 ⟨v, he, hv⟩ => ?_
        obtain ⟨Q, rfl, k8, hold, hP⟩ := made (n := 3) hv hf3
        refine ⟨_, _, he, cl_of ok20 (new20 3 4606732058837280358 w8) fun e w9 ⟨v, he, hv⟩ => ?_⟩
        rcases hv with ⟨hf', _⟩ | ⟨_, M, rfl, k9, hF, hM⟩
        · exact absurd hf' (by rw [show (3 : Int) = ((3 : Nat) : Int) by rfl, hf3]; decide)
        exact ⟨_, _, he, pif_f rfl ⟨Q, M, rfl, pair_of k8 hold hP k9 hF hM⟩⟩
      · rintro s w8 ⟨Q, M, rfl, k8, hP, hF⟩
        have z6 := k6.size
        have z7 := k7.size
        exact fin ⟨(k6.then0 k7).then0 k8, hP, fun i hi => by have := hF i hi; omega⟩
  · have hl2 : L.length = 2 := by simp at hge; omega
    obtain ⟨⟨Q0, M0⟩, ⟨Q1, M1⟩, rfl⟩ : ∃ x y, L = [x, y] := by
      match L, hl2 with
      | [x, y], _ => exact ⟨x, y, rfl⟩
    obtain ⟨hp0, hf0⟩ := hK.pr (Q0, M0) (by simp)
    obtain ⟨hp1, hf1⟩ := hK.pr (Q1, M1) (by simp)
    have hdis : ∀ i, PF Q0 M0 i → ¬ PF Q1 M1 i := by
      have := hK.dis
      rw [List.pairwise_cons] at this
      exact this.1 (Q1, M1) (by simp)
    simp only [] at hp0 hf0 hp1 hf1
    have h4 : Blk w4 b4 [P Q0.h, P Q1.h] 50 := by have := hK.p4; simpa using this
    have h6 : Blk w4 b6 [P M0.h, P M1.h] 52 := by have := hK.p6; simpa using this
    refine lp_of (fun s w' => ∃ i : Nat, s.1 = (i : Int) ∧ i ≤ m ∧ Keep None w w' ∧ Blk w' b2 [I v0, I v1, F d0, F d1, .slice sp m c] 49 ∧ Blk w' b4 [P Q0.h, P Q1.h] 50 ∧ Blk w' b6 [P M0.h, P M1.h] 52 ∧ Pr w' Q0 M0 ∧ Pr w' Q1 M1) (fun s _ => (m - s.1).toNat)
      ⟨0, rfl, Nat.zero_le _, hK.keep, hB2, h4, h6, hp0, hp1⟩ ?_
    rintro ⟨i', ⟨⟩⟩ w5 ⟨i, rfl, hi, k5, hB2, h4, h6, hp0, hp1⟩
    simp only []
    refine ldC_of (hB2.cell 4) (pif_of (fun hlt => ?_) fun hge => ?_)
    · have hlt : i < m := by simpa using hlt
      have ew : IntKind.wrap .i64 ((i : Int) + 1) = ((i + 1 : Nat) : Int) := by rw [IntKind.wrap_i64]; omega
      rw [ew]
      have hS5 := hS.keep0 k5
      refine ldC_of (hB2.cell 4) (hS5.at hlt fun a on kd x c0 c1 c2 r0 r1 r2 => ldI_of c0 (cl_of ok12 (pick12 on 2 w5 r0 (by omega)) fun e w6 ⟨he, hw6⟩ => ⟨_, he, ?_⟩))
      subst hw6
      have m1 := Int.emod_nonneg on (show (2 : Int) ≠ 0 by omega)
      have m2 := Int.emod_lt_of_pos on (show (0 : Int) < 2 by omega)
      have kd0 : Keep None w w6.drew := k5.drew
      have hSd := hS.keep0 kd0
      have dr : Keep None w6 w6.drew := (Keep.refl _ _).drew
      -- one step of either
      have go : ∀ {Q : HI} {M : MI}, Pr w6 Q M → (∀ i, PF Q M i → w3.heap.size ≤ i) → (∀ w', Keep (PF Q M) w6 w' → Pr w' Q M → Pr w' Q0 M0 ∧ Pr w' Q1 M1) →
          ldC w6.drew ⟨b2, 4, none⟩ fun x67 x67n x67c => ixA x67 x67n (i : Int) 3 fun p68 => ldI .i64 w6.drew (p68.add 0) fun x69 => ldI .i64 w6.drew (p68.add 1) fun x70 => ldI .i64 w6.drew (p68.add 2) fun x71 =>
          cl Try.prog 21 [P Q.h, P M.h, .agg #[.int .i64 x69, .int .i64 x70, .int .i64 x71]] w6.drew fun e73 w15 => ∃ x72 : Bool, e73 = Ending.returned (.bool x72) ∧
          pif (!x72) (Out (fun w' => Keep None w w') (.bool true) (.bool false) w15)
            ((∃ j : Nat, ((i + 1 : Nat) : Int) = (j : Int) ∧ j ≤ m ∧ Keep None w w15 ∧ Blk w15 b2 [I v0, I v1, F d0, F d1, .slice sp m c] 49 ∧ Blk w15 b4 [P Q0.h, P Q1.h] 50 ∧ Blk w15 b6 [P M0.h, P M1.h] 52 ∧ Pr w15 Q0 M0 ∧ Pr w15 Q1 M1) ∧ ((m : Int) - ((i + 1 : Nat) : Int)).toNat < ((m : Int) - (i : Int)).toNat) := by
        intro Q M hP hF hG
        refine ldC_of ((hB2.keep0 dr).cell 4) (hSd.at hlt fun a on kd x c0 c1 c2 r0 r1 r2 => ldI_of c0 (ldI_of c1 (ldI_of c2 (cl_of ok21 (step21 (hP.keep0 dr) r1 r2) fun e w7 ⟨he, k7, h7⟩ => ⟨_, he, pif_f rfl ⟨⟨i + 1, rfl, hlt, ?_, ?_, ?_, ?_, ?_⟩, by omega⟩⟩))))
        · exact kd0.trans k7 fun j hj hh => by have := hF j hh; omega
        · exact (hB2.keep0 dr).keep k7 fun hh => by have := hF _ hh; omega
        · exact (h4.keep0 dr).keep k7 fun hh => by have := hF _ hh; omega
        · exact (h6.keep0 dr).keep k7 fun hh => by have := hF _ hh; omega
        · exact hG w7 (dr.none.trans k7 fun i _ h => h) h7
      rcases (by omega : on % 2 = 0 ∨ on % 2 = 1) with e | e
      · rw [e]
        refine ixA_of1 (by omega) (by omega) (ldP_of ((h4.keep0 dr).cell 0) (ixA_of1 (by omega) (by omega) (ldP_of ((h6.keep0 dr).cell 0) ?_)))
        exact go hp0 hf0 fun w' k h => ⟨h, hp1.keep k fun i hi hh => hdis i hh hi⟩
      · rw [e]
        refine ixA_of1 (by omega) (by omega) (ldP_of ((h4.keep0 dr).cell 1) (ixA_of1 (by omega) (by omega) (ldP_of ((h6.keep0 dr).cell 1) ?_)))
        exact go hp1 hf1 fun w' k h => ⟨hp0.keep k fun i hi hh => hdis i hi hh, h⟩
    · refine ixA_of1 (by omega) (by omega) (ldP_of (h4.cell 0) (ixA_of1 (by omega) (by omega) (ldP_of (h6.cell 0) ?_)))
      refine cl_of ok22 (whole22 hp0) fun e w6 ⟨he, k6⟩ => ⟨_, he, ?_⟩
      refine gd_t rfl (ixA_of1 (by omega) (by omega) (gd_t rfl (ldP_of ((h4.keep0 k6).cell 1) (gd_t rfl (ixA_of1 (by omega) (by omega) (gd_t rfl (ldP_of ((h6.keep0 k6).cell 1) (gd_t rfl ?_))))))))
      exact cl_of ok22 (whole22 (hp1.keep0 k6)) fun e w7 ⟨he, k7⟩ => ⟨_, he, rfl, (k5.then0 k6).then0 k7⟩
end Go.Proofs.Ytfifgopmegbifaa.Heat
