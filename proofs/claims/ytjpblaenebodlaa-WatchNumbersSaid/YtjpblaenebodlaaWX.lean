/- Watch: formulas in memory; Formed. -/
import Derived.Test.YtjpblaenebodlaaWV
set_option linter.unusedVariables false
set_option linter.unusedSimpArgs false
set_option linter.unusedSectionVars false
set_option maxRecDepth 100000
namespace Go.Proofs.Ytjpblaenebodlaa.Wt
open Go Go.Proofs.Ytjpblaenebodlaa.Vc Go.Proofs.Ytjpblaenebodlaa.T
open Go.Proofs.Ytjpblaenebodlaa.Apart (RdL own_rdl wrap_nat getE own_len copy same take_snoc Sl sv New)
open Go.Proofs.Ytjpblaenebodlaa.Lits (fl fl_iff idx idx_inj idx_range Ans ans_of indexP formedP tidyP Td Srt)

/-- a list of lists wherever it lies, in blocks of B -/
structure RdC (B : Nat → Prop) (w : World) (p : Option Addr) (n : Nat) (css : List (List Int)) : Prop where
  len : css.length = n
  cell : ∀ (i : Nat) (es : List Int), css[i]? = some es → ∃ (a : Addr) (q : Option Addr) (m c : Nat), p = some a ∧ w.cell? (a.add i) = some (.slice q m c) ∧ RdL w q m es ∧ B a.block ∧ ∀ j, ob q j → 0 < m → B j
theorem rdl_keep {S : Nat → Prop} {w w' : World} {q : Option Addr} {m : Nat} {es : List Int} (h : RdL w q m es) (hk : Keep S w w') (hs : ∀ j, ob q j → 0 < m → ¬ S j) : RdL w' q m es := by
  by_cases hm : m = 0
  · subst hm
    have := List.eq_nil_of_length_eq_zero h.len
    subst this
    exact ⟨rfl, fun i x hx => by simp at hx⟩
  · exact h.keep hk fun j hj => hs j hj (by omega)
section
variable {B : Nat → Prop} {w w' : World} {p : Option Addr} {n : Nat} {css : List (List Int)}
theorem blk_add (a : Addr) (i : Nat) : (a.add i).block = a.block := by unfold Addr.add; split <;> rfl
theorem RdC.keep {S : Nat → Prop} (h : RdC B w p n css) (hk : Keep S w w') (hs : ∀ i, B i → ¬ S i) : RdC B w' p n css :=
  ⟨h.len, fun i es hi => by
    obtain ⟨a, q, m, c, h1, h2, h3, h4, h5⟩ := h.cell i es hi
    exact ⟨a, q, m, c, h1, hk.cell h2 (by rw [blk_add]; exact hs _ h4), rdl_keep h3 hk fun j hj h0 => hs j (h5 j hj h0), h4, h5⟩⟩
theorem RdC.keep0 (h : RdC B w p n css) (hk : Keep None w w') : RdC B w' p n css := h.keep hk fun _ _ h => h
theorem RdC.ix (h : RdC B w p n css) {i : Nat} {es : List Int} (hx : css[i]? = some es) {K : Addr → Prop} (hk : ∀ a q m c, w.cell? a = some (.slice q m c) → RdL w q m es → K a) : ixA p n (i : Int) 1 K := by
  have hl := h.len
  have hi := (List.getElem?_eq_some_iff.1 hx).1
  obtain ⟨a, q, m, c, rfl, h2, h3, _⟩ := h.cell i es hx
  refine ⟨by omega, by omega, ?_⟩
  show K _
  rw [Nat.mul_one, Int.toNat_natCast]
  exact hk _ q m c h2 h3
end
def FormedF (nv : Int) (css : List (List Int)) : Prop := 0 ≤ nv ∧ nv ≤ 1048576 ∧ ∀ c ∈ css, ∀ x ∈ c, Wi nv.toNat x
theorem formed23 {B : Nat → Prop} {w : World} {nv : Int} {p : Option Addr} {n c : Nat} {css : List (List Int)} (hC : RdC B w p n css) (hn : n ≤ 17592186044416) (hl : ∀ es ∈ css, es.length ≤ 17592186044416) :
    Calls Try.prog 23 #[.agg #[I nv, .slice p n c]] w fun e w' => ∃ r : Bool, e = .returned (.bool r) ∧ (r = true ↔ FormedF nv css) ∧ Keep None w w' := by
  refine (V23_calls nv p n c w (fun v w' => ∃ r : Bool, v = .bool r ∧ (r = true ↔ FormedF nv css) ∧ Keep None w w') ?_).mono fun e w' ⟨v, he, r, hv, hk⟩ => ⟨r, by rw [he, hv], hk⟩
  unfold V23
  have hll := hC.len
  refine alc_at fun b2 w1 hb2 hB2 k1 => ?_
  refine ldI_of (x := nv) (by rw [add_mk]; exact hB2.cell 0) ?_
  have cont : nv < 0 ∨ nv > 1048576 → ¬ FormedF nv css := fun h hf => by obtain ⟨a, b, _⟩ := hf; omega
  refine gd_of (fun h => ?_) fun h => ?_
  · have h0 : ¬ nv < 0 := by simpa using h
    have hd : decide (nv < 0) = false := decide_eq_false h0
    refine ldI_of (x := nv) (by rw [add_mk]; exact hB2.cell 0) ?_
    rw [hd]
    refine pif_of (fun hq => ⟨false, rfl, ⟨fun hh => (by cases hh), fun hh => absurd hh (cont (Or.inr (by simpa using hq)))⟩, k1⟩) fun hq => ?_
    have hle : nv ≤ 1048576 := by have : ¬ nv > 1048576 := by simpa using hq
                                  omega
    obtain ⟨m, rfl⟩ := Int.eq_ofNat_of_zero_le (show 0 ≤ nv by omega)
    refine ldC_of (x := p) (n := n) (c := c) (by rw [add_mk]; exact hB2.cell 1) ?_
    refine lp_of (fun s W => ∃ i : Nat, s.1 = (i : Int) ∧ i ≤ n ∧ Keep None w1 W ∧ ∀ es ∈ css.take i, ∀ x ∈ es, Wi m x) (fun s _ => (n - s.1).toNat) ⟨0, rfl, Nat.zero_le _, Keep.refl _ _, fun x hx => by simp at hx⟩ ?_
    rintro ⟨i', ⟨⟩⟩ W ⟨i, rfl, hi, kW, hv⟩
    simp only [] at hv ⊢
    refine pif_of (fun hlt => ?_) fun hge => ?_
    · have hlt : i < n := by simpa using hlt
      rw [wrap_nat i (by omega)]
      obtain ⟨es, hes⟩ := getE (show i < css.length by omega)
      have hm := List.mem_of_getElem? hes
      refine ((hC.keep0 k1).keep0 kW).ix hes fun a q k cc ha hRd => ldC_of ha (ldI_of (x := (m : Nat)) (by rw [add_mk]; exact (hB2.keep0 kW).cell 0) ?_)
      refine cl_of ok41 (within41 hRd (by rw [← hRd.len]; exact hl es hm) (nv := m) (by omega)) fun e w3 ⟨r, he, hr, k3⟩ => ⟨r, he, ?_⟩
      refine pif_of (fun hq => ⟨false, rfl, ⟨fun hh => (by cases hh), fun hh => ?_⟩, (k1.then0 kW).then0 k3⟩) fun hq => ?_
      · rw [hr.2 (hh.2.2 es hm)] at hq; cases hq
      · refine ⟨⟨i + 1, rfl, hlt, kW.then0 k3, fun y hy => ?_⟩, by omega⟩
        rw [List.take_add_one, hes] at hy
        rcases List.mem_append.1 hy with hy | hy
        · exact hv y hy
        · rw [List.mem_singleton.1 hy]; exact hr.1 (by simpa using hq)
    · have hge : i = n := by simp at hge; omega
      subst hge
      rw [← hll, List.take_length] at hv
      exact ⟨true, rfl, ⟨fun _ => ⟨by omega, hle, hv⟩, fun _ => rfl⟩, k1.then0 kW⟩
  · have h0 : nv < 0 := by simpa using h
    exact pif_t (by rw [decide_eq_true h0]; rfl) ⟨false, rfl, ⟨fun hh => (by cases hh), fun hh => absurd hh (cont (Or.inl h0))⟩, k1⟩
end Go.Proofs.Ytjpblaenebodlaa.Wt
