/- HeatAdds: the law's walk. -/
import Derived.Test.YtfifgopmegbifaaHeatO
import Derived.Test.YtfifgopmegbifaaScales
set_option linter.unusedVariables false
set_option linter.unusedSimpArgs false
set_option maxRecDepth 100000
namespace Go.Proofs.Ytfifgopmegbifaa.Heat
open Go Go.Proofs.Ytfifgopmegbifaa.Vc Go.Proofs.Ytfifgopmegbifaa.T
open Go.Proofs.Ytfifgopmegbifaa.Apart (RdL own_rdl wrap_nat Ls Sl sv Ag Lists getE own_len copy same apart take_snoc)

def Yes5 (w : World) (v : Value) (w' : World) : Prop := v = .bool true ∧ Keep None w w'
def simLow (j : Nat) : Bool := match sim j with | some x => decide (x.1 < 1104 * Fl.Bn) | none => false
theorem sim_low : ∀ j, j < 81 → simLow j = true := by decide +kernel
theorem sim_lt {j p q : Nat} (hj : j < 81) (h : sim j = some (p, q)) : p < 1104 * Fl.Bn := by
  have := sim_low j hj
  unfold simLow at this
  rw [h] at this
  simpa using this
theorem eq_self {x : Nat} (h : x ≤ Fl.Inf) : ((FloatKind.format .f64).order x x != some .eq) = false := by
  have : (FloatKind.format .f64).order x x = some (compare x x) := Fl.ord h h
  rw [this, Nat.compare_eq_eq.2 rfl]; rfl
theorem over_lt {x : Nat} (h : x < 1300 * Fl.Bn) : over x = false := by
  unfold over
  have hI : 1300 * Fl.Bn < Fl.Inf := by decide
  have hm : 1300 * Fl.Bn < most := by decide
  have : (FloatKind.format .f64).order x most = some (compare x most) := Fl.ord (by omega) (Nat.le_of_lt most_inf)
  rw [this, Nat.compare_eq_lt.2 (by omega)]; rfl
/-- the heat behind i bumps -/
structure Ad (w0 w : World) (Q : HI) (i j sum step : Nat) : Prop where
  ph : PH 2 w Q [0, sum] step half [true, true]
  keep : Keep None w0 w
  sim : ∃ q, sim j = some (step, q)
  j : j ≤ 2 * i
  zero : i = 0 → sum = 0
  pos : 0 < i → one ≤ sum
  low : sum < (1105 + 2 * i) * Fl.Bn
theorem law5 (p : Option Addr) (m c : Nat) (cs : List Int) (w : World) (hm : m ≤ 9223372036854775807) (hR : RdL w p m cs) (hcs : ∀ x ∈ cs, i64 x) :
    Calls Try.prog 5 #[.slice p m c] w fun e w' => e = .returned (.bool true) ∧ RowKit.Below w.heap.size w w' := by
  refine (V5_calls p m c w (Yes5 w) ?_).mono fun e w' ⟨v, he, hv, hk⟩ => ⟨by rw [he, hv], hk.below0⟩
  unfold V5
  have hf : fine ((2 : Nat) : Int) half = true := by decide +kernel
  refine cl_of ok9 (new9 2 half w (by omega)) fun e w1 ⟨v, he, hv⟩ => ?_
  obtain ⟨Q, rfl, k1, hold, hP⟩ := made (n := 2) hv hf
  refine ⟨_, _, he, pif_f rfl ?_⟩
  have thenQ : ∀ {wa wb : World}, Keep None w wa → Keep Q.F wa wb → Keep None w wb := fun h1 h2 => h1.trans h2 fun i hi hh => by have := hold i hh; omega
  refine lp_of (fun s w' => ∃ i j : Nat, s.2.2.1 = (i : Int) ∧ i ≤ 40 ∧ i ≤ m ∧ Ad w w' Q i j s.1 s.2.1) (fun s _ => (40 - s.2.2.1).toNat)
    ⟨0, 0, rfl, by omega, by omega, ⟨hP, k1, ⟨_, rfl⟩, by omega, fun _ => rfl, fun h => by omega, by decide⟩⟩ ?_
  rintro ⟨sum, step, i', ⟨⟩⟩ w2 ⟨i, j, rfl, hi, him, hA⟩
  simp only [] at hA ⊢
  have hb0 : 0 < Fl.Bn := by decide
  have hI : 1300 * Fl.Bn < Fl.Inf := by decide
  refine pif_of (fun hlt => ?_) fun hge => ?_
  · have hlt : i < m ∧ i < 40 := by simp at hlt; omega
    obtain ⟨q, hq⟩ := hA.sim
    have hjs := hA.j
    have hst := sim_lt (by omega) hq
    have hsl := hA.low
    have hsl2 : (1105 + 2 * i) * Fl.Bn ≤ 1185 * Fl.Bn := Nat.mul_le_mul_right _ (by omega)
    have hsum := fsum_eq (x := sum) (y := step) (by omega) (by omega)
    have hz : fsum sum step < (1105 + 2 * (i + 1)) * Fl.Bn := by
      obtain ⟨z, hz, hzl⟩ := Fl.add_coarse (x := sum) (y := step) (k := 1104 + 2 * i) (by rw [show 1104 + 2 * i + 1 = 1105 + 2 * i by omega]; exact hsl) (by
        have : 1104 * Fl.Bn ≤ (1104 + 2 * i + 1) * Fl.Bn := Nat.mul_le_mul_right _ (by omega)
        omega) (by omega) (by omega)
      have ez : fsum sum step = z := by unfold fsum; rw [hz]; rfl
      rw [ez]
      exact Nat.lt_of_le_of_lt hzl (Nat.mul_lt_mul_of_pos_right (by omega) hb0)
    have hz2 : (1105 + 2 * (i + 1)) * Fl.Bn ≤ 1185 * Fl.Bn := Nat.mul_le_mul_right _ (by omega)
    have hov := over_lt (x := fsum sum step) (by omega)
    have hpos : one ≤ fsum sum step := by
      rcases Nat.eq_zero_or_pos i with h0 | h0
      · have hj0 : j = 0 := by omega
        have hs0 := hA.zero h0
        rw [hj0] at hq
        have e1 : one = step := by
          have : some (one, one) = some (step, q) := hq
          injection this with this
          exact (Prod.mk.inj this).1
        rw [hs0, ← e1]
        decide +kernel
      · exact Nat.le_trans (hA.pos h0) hsum.2.2
    have eb : bumpS [0, sum] step 2 = ([0, fsum sum step], step) := by
      unfold bumpS
      have : ([0, sum] : List Nat).getD ((2 : Int) - 1).toNat 0 = sum := rfl
      rw [this, hov]
      rfl
    refine cl_of ok13 (hA.ph.bump (v := 2) (by omega)) fun e w3 ⟨he, k3, h3⟩ => ⟨_, he, pif_f rfl ⟨fsum sum step, hsum.1, ?_⟩⟩
    rw [eb] at h3
    have kk3 := thenQ hA.keep k3
    refine cl_of ok11 (h3.score 2) fun e w4 ⟨hw, he⟩ => ⟨fsum sum step, 0, he, ?_⟩
    subst hw
    refine cl_of ok11 (h3.score 1) fun e w5 ⟨hw, he⟩ => ⟨0, 0, he, ?_⟩
    subst hw
    refine pif_f ?_ ?_
    · rw [eq_self hsum.2.1, eq_self (Nat.zero_le _)]; rfl
    -- the cools
    obtain ⟨x, hx⟩ := getE (show i < cs.length by have := hR.len; omega)
    have hx6 := hcs x (List.mem_of_getElem? hx)
    have b1 := Int.emod_nonneg x (show (3 : Int) ≠ 0 by omega)
    have b2 := Int.emod_lt_of_pos x (show (0 : Int) < 3 by omega)
    refine lp_of (fun s w' => ∃ t : Nat, s.2.1 = (t : Int) ∧ t ≤ 2 ∧ Keep None w w' ∧ PH 2 w' Q [0, fsum sum step] s.1 half [true, true] ∧ ∃ q, sim (j + t) = some (s.1, q)) (fun s _ => (3 - s.2.1).toNat)
      ⟨0, rfl, by omega, kk3, h3, q, hq⟩ ?_
    rintro ⟨st, t', ⟨⟩⟩ w6 ⟨t, rfl, ht, k6, h6, q6, hq6⟩
    simp only [] at h6 hq6 ⊢
    refine (hR.keep0 k6).ix hlt.1 fun a y hy ha => ldI_of ha ?_
    rw [hx] at hy
    injection hy with hy
    subst hy
    refine cl_of ok12 (pick12 x 3 w6 hx6 (by omega)) fun e w7 ⟨he, hw⟩ => ⟨_, he, ?_⟩
    subst hw
    rw [wrap_nat t (by omega), wrap_nat i (by omega)]
    refine pif_of (fun htl => ?_) fun _ => ?_
    · have htl : (t : Int) < x % 3 := by simpa using htl
      have ht1 : t ≤ 1 := by omega
      obtain ⟨y, y1, y2, ho, hnext⟩ := sim_step (by omega) hq6
      have ho' : over y = false := by rw [ho]; simp; omega
      have hs' : sim (j + t + 1) = some (y, q6) := by
        rcases hnext with ⟨_, hh⟩ | ⟨hh, _⟩
        · exact hh
        · omega
      have ed : fdiv st half = y := by
        unfold fdiv
        rw [show Fl.d64.div st half = some y from y1]; rfl
      have ec : coolS [0, fsum sum step] st half = ([0, fsum sum step], y) := by
        unfold coolS
        rw [ed, ho']; rfl
      refine cl_of ok14 h6.cool fun e w8 ⟨he, k8, h8⟩ => ⟨he, y, y2, ?_⟩
      rw [ec] at h8
      exact ⟨⟨t + 1, rfl, by omega, thenQ k6 k8, h8, q6, hs'⟩, by omega⟩
    · exact ⟨⟨i + 1, j + t, rfl, by omega, hlt.1, ⟨h6, k6, ⟨q6, hq6⟩, by omega, fun h => by omega, fun _ => hpos, hz⟩⟩, by omega⟩
  · refine cl_of ok15 (PHorder2 hA.ph) fun e w3 ⟨a, R, he, la, hO, hOw, hn, k3⟩ => ⟨a.1, a.2.1, a.2.2, he, ?_⟩
    have hl2 : R.length = 2 := by rw [← cnt_ord hO]; rfl
    have hrd := own_rdl hOw
    rw [la, hl2] at hrd ⊢
    have kk := hA.keep.then0 k3
    by_cases hm0 : m = 0
    · subst hm0
      exact gd_f rfl (gd_f rfl ⟨rfl, kk⟩)
    · have eb : (!(((m : Nat) : Int) == 0)) = true := by simpa using hm0
      have i0 : 0 < i := by simp at hge; omega
      obtain ⟨x, hx⟩ := getE (show 0 < R.length by omega)
      obtain ⟨y, hy⟩ := getE (show 0 + 1 < R.length by omega)
      have hw := hA.ph.wf
      have hb := ordl_step hw hO hx hy
      have r1 := inA_rng ((hO.mem x).1 (List.mem_of_getElem? hx))
      have r2 := inA_rng ((hO.mem y).1 (List.mem_of_getElem? hy))
      have hp := hA.pos i0
      have hbi := (bfw_iff hw.nn hw.scl r1 r2).1 hb
      have hx2 : x = 2 := by
        apply Classical.byContradiction
        intro hne
        obtain rfl : x = 1 := by omega
        have e1 : ([0, sum] : List Nat).getD ((1 : Int) - 1).toNat 0 = 0 := rfl
        rw [e1] at hbi
        rcases hbi with h | ⟨h, h'⟩
        · omega
        · obtain rfl : y = 2 := by omega
          have e2 : ([0, sum] : List Nat).getD ((2 : Int) - 1).toNat 0 = sum := rfl
          rw [e2] at h
          have : 0 < one := by decide
          omega
      have e2 : ((((2 : Nat) : Int) == 2) && (!(((m : Nat) : Int) == 0))) = true := by rw [eb]; rfl
      refine gd_t e2 (hrd.ix (i := 0) (by omega) fun pa z hz hza => gd_t e2 (ldI_of hza ⟨?_, kk⟩))
      rw [hx] at hz
      injection hz with hz
      rw [← hz, hx2]
      simp
end Go.Proofs.Ytfifgopmegbifaa.Heat
