/- HeatKeeps: the law's walk. -/
import Derived.Test.YtfifgopmegbifaaHeatS
set_option linter.unusedVariables false
set_option linter.unusedSimpArgs false
set_option maxRecDepth 100000
namespace Go.Proofs.Ytfifgopmegbifaa.Heat
open Go Go.Proofs.Ytfifgopmegbifaa.Vc Go.Proofs.Ytfifgopmegbifaa.T
open Go.Proofs.Ytfifgopmegbifaa.Apart (RdL own_rdl wrap_nat Ls Sl sv Ag Lists getE own_len copy same apart)

def Yes2 (w : World) (v : Value) (w' : World) : Prop := v = .bool true ∧ Keep None w w'
theorem jok_any : Jok fun _ _ => True := ⟨fun _ => trivial, fun _ _ _ => trivial, fun _ _ _ => trivial⟩
theorem ordl_new {n : Nat} {sc : List Nat} {wb : List Bool} {R : List Int} (h : OrdL n sc wb R) (hw : wb = List.replicate n true) (hR : R.length = 0) : n = 0 := by
  apply Classical.byContradiction
  intro hn
  have : (1 : Int) ∈ R := (h.mem 1).2 (by
    unfold inA isIn
    rw [hw, List.getD_eq_getElem?_getD, List.getElem?_replicate, if_pos (by omega)]
    simp
    omega)
  rw [List.eq_nil_of_length_eq_zero hR] at this
  cases this
theorem law6 (N : Int) (d : Nat) (sp : Option Addr) (m c : Nat) (w : World) (hN : i64 N) (hm : m ≤ 1048576) (hS : OpL w sp m) :
    Calls Try.prog 6 #[.agg #[I N, F d, .slice sp m c]] w fun e w' => e = .returned (.bool true) ∧ RowKit.Below w.heap.size w w' := by
  refine (V6_calls N d sp m c w (Yes2 w) ?_).mono fun e w' ⟨v, he, hv, hk⟩ => ⟨by rw [he, hv], hk.below0⟩
  unfold V6
  refine alc_at fun b w1 hb hB k1 => ?_
  simp only [add_mk, Nat.zero_add, Nat.add_zero]
  refine ldI_of (hB.cell 0) (ldF_of (hB.cell 1) (ldC_of (hB.cell 2) ?_))
  have m1 := Int.emod_nonneg N (show (61 : Int) ≠ 0 by omega)
  refine cl_of ok16 (run16 jok_any N d sp m c w1 hN hm (hS.keep0 k1)) fun e w2 ⟨v, he, Q, decay, p, pc, xs, C, o, hv, hC, h⟩ => ⟨_, _, _, _, he.trans (congrArg Ending.returned hv), pif_f rfl ?_⟩
  have hn61 : N % 61 = ((N % 61).toNat : Int) := by omega
  generalize (N % 61).toNat = n at *
  obtain ⟨sc, step, wb, hP, _, hw⟩ := h.st.2
  have k2 := h.keep
  have hwf := hP.wf
  have hs := hwf.small
  -- the list that is kept
  refine cl_of ok15 (PHorder2 hP) fun e w3 ⟨a3, R, he, l3, hR, hO3, hn3, k3⟩ => ⟨a3.1, a3.2.1, a3.2.2, he, ?_⟩
  have hRl := ordl_len hR
  have h3 := h.keep0 k3
  have hP3 := hP.keep0 k3
  refine cl_of ok17 (copy (own_rdl hO3) (by omega)) fun e w4 ⟨v, he, q, qc, hv, hO4, hn4, k4⟩ => ⟨_, _, _, he.trans (congrArg Ending.returned hv), ?_⟩
  obtain ⟨o4, g4, p4, h4⟩ := h3.fresh k4 (a := (q, R.length, qc)) hO4 hn4 (-4)
  have hP4 := hP3.keep0 k4
  refine cl_of ok15 (PHorder2 hP4) fun e w5 ⟨a5, R5, he, l5, hR5, hO5, hn5, k5⟩ => ⟨a5.1, a5.2.1, a5.2.2, he, ?_⟩
  obtain rfl := hR.unique hwf hR5
  obtain ⟨o5, g5, p5, h5⟩ := h4.fresh k5 hO5 hn5 (C.length : Nat)
  have hP5 := hP4.keep0 k5
  have p4 := p4.step0 g5 k5
  refine cl_of ok15 (PHorder2 hP5) fun e w6 ⟨a6, R6, he, l6, hR6, hO6, hn6, k6⟩ => ⟨a6.1, a6.2.1, a6.2.2, he, ?_⟩
  obtain rfl := hR.unique hwf hR6
  obtain ⟨o6, g6, p6, h6⟩ := h5.fresh k6 hO6 hn6 ((C.length + 1 : Nat) : Int)
  have hP6 := hP5.keep0 k6
  have p4 := p4.step0 g6 k6
  have p5 := p5.step0 g6 k6
  have k16 : Keep None w1 w6 := (((k2.then0 k3).then0 k4).then0 k5).then0 k6
  refine h6.push [(a5, R), (a6, R)] (fun j b hb => ?_) (fun b hb => ?_) (by simp only [List.length_cons, List.length_nil]; omega) fun p' c' w7 o7 g7 k7 h7 => ?_
  · match j, hb with
    | 0, hb => simp only [List.getElem?_cons_zero, Option.some.injEq] at hb; subst hb; exact p5
    | 1, hb => simp only [List.getElem?_cons_succ, List.getElem?_cons_zero, Option.some.injEq] at hb; subst hb; exact p6
    | j + 2, hb => simp at hb
  · simp only [List.mem_cons, List.not_mem_nil, or_false] at hb
    rcases hb with rfl | rfl <;> (simp only []; omega)
  have hop : ∀ i, ob p i → o6 i = -1 := h6.ls.ow
  have hP7 : PH n w7 Q sc step decay wb := hP6.keep k7 fun i hi hh => by have := h6.oh i hi; have := hop i hh; omega
  have p4 : Pend w7 o7 (-4) (q, R.length, qc) R := ⟨p4.1.keep k7 fun i hi hh => by have := p4.2 i hi; have := hop i hh; omega, fun i hi => by rw [g7 i (p4.1.lt i hi)]; exact p4.2 i hi⟩
  have p5 : Own w7 3 1 a5.1 a5.2.1 a5.2.2 (R.map I) := p5.1.keep k7 fun i hi hh => by have := p5.2 i hi; have := hop i hh; omega
  refine cl_of ok18 (same (own_rdl p5) (own_rdl p4.1) (by rw [l5]; omega)) fun e w8 ⟨he, k8⟩ => ⟨_, he, ?_⟩
  have h8 := h7.keep0 k8
  have hB8 := hB.keep0 h8.keep
  have et : decide (R = R) = true := decide_eq_true rfl
  rw [et]
  have tail : cl Try.prog 19 [.slice p' (C.length + [(a5, R), (a6, R)].length) c'] w8 fun e42 w14 => ∃ x41 : Bool, e42 = Ending.returned (.bool x41) ∧
      pif (!x41) (
        Yes2 w (.bool false) w14) (
        cl Try.prog 15 [.pointer (some ⟨Q.h, 0, none⟩)] w14 fun e46 w15 => ∃ (x45 : Option Addr) (x45n x45c : Nat), e46 = Ending.returned (.slice x45 x45n x45c) ∧
        cl Try.prog 18 [.slice x45 x45n x45c, .slice q R.length qc] w15 fun e48 w16 => ∃ x47 : Bool, e48 = Ending.returned (.bool x47) ∧
        Yes2 w (.bool x47) w16) := by
    have hls := h8.ls
    have el : (C ++ List.map (fun a => a.2) [(a5, R), (a6, R)]).length = C.length + [(a5, R), (a6, R)].length := by simp
    rw [el] at hls
    refine cl_of ok19 (apart (hls.mono fun _ _ _ _ _ _ => trivial) (by simp only [List.length_cons, List.length_nil]; omega) fun k x hx => ?_) fun e w9 ⟨he, k9⟩ => ⟨_, he, pif_f rfl ?_⟩
    · obtain ⟨ys, hO, hy⟩ := hls.each k x hx
      have := h8.good ys (List.mem_of_getElem? hy)
      have := own_len hO
      omega
    have hP9 : PH n w9 Q sc step decay wb := (hP7.keep0 k8).keep k9 fun i hi (hh : 0 ≤ o7 i) => by have := h8.oh i hi; omega
    have p9 : Own w9 3 1 q R.length qc (R.map I) := (p4.1.keep0 k8).keep k9 fun i hi (hh : 0 ≤ o7 i) => by have := p4.2 i hi; simp only [] at *; omega
    have kk : Keep None w1 w9 := h8.keep.trans k9 fun i hi (hh : 0 ≤ o7 i) => by have := h8.old i hi; omega
    refine cl_of ok15 (PHorder2 hP9) fun e wa ⟨aa, Ra, he, la, hRa, hOa, hna, ka⟩ => ⟨aa.1, aa.2.1, aa.2.2, he, ?_⟩
    obtain rfl := hR.unique hwf hRa
    refine cl_of ok18 (same (own_rdl hOa) (own_rdl (p9.keep0 ka)) (by rw [la]; omega)) fun e wb ⟨he, kb⟩ => ⟨_, he, ?_, (k1.then0 kk).then0 (ka.then0 kb)⟩
    rw [et]
  -- is the list empty though nothing was called?
  refine ⟨fun hc => ldC_of (hB8.cell 2) ?_, fun hc => ?_⟩
  all_goals simp only [Bool.not_true, Bool.not_false, Bool.true_and] at hc ⊢
  · have hR0 : R.length = 0 := by simpa using hc
    refine ⟨fun hc2 => ldI_of (hB8.cell 0) ?_, fun hc2 => ?_⟩
    · have hm0 : m = 0 := by simp [hR0] at hc2; exact hc2
      refine ⟨fun _ => cl_of ok12 (pick12 N 61 w8 hN (by omega)) fun e w9 ⟨he, hw9⟩ => ⟨_, he, ?_⟩, fun hn => absurd (hc2.symm.trans hn) (by decide)⟩
      rw [hw9]
      refine pif_f ?_ ?_
      · have := ordl_new hR (hw hm0) hR0
        rw [hn61, this]
        simp
      exact tail
    · refine ⟨fun hn => absurd (hc2.symm.trans hn) (by decide), fun _ => pif_f ?_ ?_⟩
      · rw [hc2]; rfl
      exact tail
  · refine ⟨fun hn => ?_, fun _ => ⟨fun hn => ?_, fun _ => pif_f ?_ ?_⟩⟩
    · rw [hc] at hn; cases hn
    · rw [hc] at hn; cases hn
    · rw [hc]; rfl
    exact tail
end Go.Proofs.Ytfifgopmegbifaa.Heat
