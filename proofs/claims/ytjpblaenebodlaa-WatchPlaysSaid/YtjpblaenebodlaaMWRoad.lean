/- Watch: Assume's walk; Lits, Clashes. -/
import Derived.Test.YtjpblaenebodlaaMWS
import Derived.Below
import Derived.Test.YtjpblaenebodlaaMSort2
import Derived.Test.YtjpblaenebodlaaMVcL
set_option linter.unusedVariables false
set_option linter.unusedSimpArgs false
set_option linter.unusedSectionVars false
set_option maxRecDepth 100000
namespace Go.Proofs.Ytjpblaenebodlaa.Wt
open Go Go.Proofs.Ytjpblaenebodlaa.Vc Go.Proofs.Ytjpblaenebodlaa.T
open Go.Proofs.Ytjpblaenebodlaa.Apart (RdL own_rdl wrap_nat getE own_len copy same take_snoc Sl sv New)
open Go.Proofs.Ytjpblaenebodlaa.Lits (fl fl_iff idx idx_inj idx_range Ans ans_of indexP formedP tidyP Td Srt)

section
variable {ex : Nat → Prop} {w : World} {b : Nat} {o : Nat → Int} {h : Hs} {S : WS}
theorem lits21 (hR : Rp ex w b o h S) (hl : S.tr.length ≤ 17592186044416) : Calls Try.prog 21 #[Pt b] w fun e w' => ∃ v L, e = .returned v ∧ Td (· ∈ S.tr) L ∧ New w L v w' := by
  refine (V21_calls (some ⟨b, 0, none⟩) w (fun v w' => ∃ L, Td (· ∈ S.tr) L ∧ New w L v w') ?_).mono fun e w' ⟨v, he, L, hk⟩ => ⟨v, L, he, hk⟩
  unfold V21
  have htl := own_len hR.tr
  refine nn_of (ldC_of (x := h.tt.1) (n := h.tt.2.1) (c := h.tt.2.2) (by rw [add_mk]; exact hR.self.cell 1) ?_)
  exact cl_of ok40 (tidyP (own_rdl hR.tr) (by omega)) fun e w2 ⟨v, L, he, hT, g, gc, hv, hk⟩ => ⟨_, _, _, he.trans (congrArg Ending.returned hv), L, hT, g, gc, rfl, hk⟩
theorem clashes22 (hR : Rp ex w b o h S) : Calls Try.prog 22 #[Pt b] w fun e w' => e = .returned (.bool S.clash) ∧ Keep None w w' := by
  refine ans_of (V22_calls (some ⟨b, 0, none⟩) w (Ans w _) ?_)
  unfold V22
  exact nn_of (ldB_of (x := S.clash) (by rw [add_mk]; exact hR.self.cell 7) ⟨rfl, Keep.refl _ _⟩)
end
end Go.Proofs.Ytjpblaenebodlaa.Wt

/- Watch: Assume's walk. -/
set_option linter.unusedVariables false
set_option linter.unusedSimpArgs false
set_option linter.unusedSectionVars false
set_option maxRecDepth 100000
namespace Go.Proofs.Ytjpblaenebodlaa.Wt
open Go Go.Proofs.Ytjpblaenebodlaa.Vc Go.Proofs.Ytjpblaenebodlaa.T
open Go.Proofs.Ytjpblaenebodlaa.Apart (RdL own_rdl wrap_nat getE own_len copy same take_snoc Sl sv New)
open Go.Proofs.Ytjpblaenebodlaa.Lits (fl fl_iff idx idx_inj idx_range Ans ans_of indexP formedP tidyP Td Srt)

def Assumed (w : World) (b : Nat) (o : Nat → Int) (S : WS) (l : Int) (v : Value) (w' : World) : Prop :=
  (v = I 1 ∧ ¬ Wi S.nv l ∧ Keep None w w') ∨ (v = I 3 ∧ Wi S.nv l ∧ S.rest = false ∧ Keep None w w') ∨ (v = I 50 ∧ Wi S.nv l ∧ S.rest = true ∧ lv S.tr l ≠ 0 ∧ Keep None w w') ∨
  (v = I 0 ∧ Wi S.nv l ∧ S.rest = true ∧ lv S.tr l = 0 ∧ Nx tMine noEx w b o { S with st := S.st ++ [S.tr.length], tr := S.tr ++ [l], rest := false } w')
theorem assume8 {C : List (List Int)} {w : World} {b : Nat} {o : Nat → Int} {h : Hs} {S : WS} (hR : Rp noEx w b o h S) (hA : At C S) (hsl : S.st.length ≤ 17592186044415) (l : Int) :
    Calls Try.prog 8 #[Pt b, I l] w fun e w' => ∃ v, e = .returned v ∧ Assumed w b o S l v w' := by
  refine V8_calls (some ⟨b, 0, none⟩) l w (Assumed w b o S l) ?_
  unfold V8
  have hwf := hA.iv.wf
  refine alc_at fun b3 w1 hb3 hB3 k1 => ?_
  have hR1 := hR.keep0 k1
  have hRd : RdL w1 (some ⟨b3, 0, none⟩) 1 [l] := own_rdl (c := 1) (Or.inr ⟨b3, [I l], rfl, hB3, Nat.le_refl _, by decide, rfl, rfl⟩)
  refine cl_of ok25 (within25 hR1 hwf.nvb hRd (by decide)) fun e w2 ⟨r, he, hr, k2⟩ => ⟨r, he, ?_⟩
  have k12 := k1.then0 k2
  have hR2 := hR1.keep0 k2
  refine pif_of (fun hq => Or.inl ⟨rfl, fun hw => ?_, k12⟩) fun hq => ?_
  · rw [hr.2 (fun x hx => by rw [List.mem_singleton.1 hx]; exact hw)] at hq; cases hq
  have hw : Wi S.nv l := hr.1 (by simpa using hq) l (by simp)
  refine nn_of (ldB_of (x := S.rest) (by rw [add_mk]; exact hR2.self.cell 6) ?_)
  refine pif_of (fun hq2 => Or.inr (Or.inl ⟨rfl, hw, by simpa using hq2, k12⟩)) fun hq2 => ?_
  have hrest : S.rest = true := by simpa using hq2
  refine cl_of ok26 (of26 hR2 hwf.cons hwf.nvb hw) fun e w3 ⟨he3, k3⟩ => ⟨_, he3, ?_⟩
  have k13 := k12.then0 k3
  refine pif_of (fun hq3 => Or.inr (Or.inr (Or.inl ⟨rfl, hw, hrest, by simpa using hq3, k13⟩))) fun hq3 => ?_
  have hl0 : lv S.tr l = 0 := by simpa using hq3
  have hRd3 := (hR2.keep0 k3).keep0 ((Keep.refl None w3).drew)
  have htl := own_len hRd3.tr
  have k1d := k13.drew
  refine nn_of (ldC_of (x := h.ss.1) (n := h.ss.2.1) (c := h.ss.2.2) (by rw [add_mk]; exact hRd3.self.cell 2) (nn_of (ldC_of (x := h.tt.1) (n := h.tt.2.1) (c := h.tt.2.2) (by rw [add_mk]; exact hRd3.self.cell 1) ?_)))
  refine alc_at fun b19 w4 hb19 hB4 k4 => ?_
  have hR4 := hRd3.keep0 k4
  refine ⟨ldC_of (x := h.ss.1) (n := h.ss.2.1) (c := h.ss.2.2) (by rw [add_mk]; exact hR4.self.cell 2) rfl, ?_⟩
  rw [← htl] at hB4
  have k14 := k1d.then0 k4
  refine pushSt hR4 hsl hB4 fun w6 ⟨o6, h6, hR6, ha6, k6⟩ => ?_
  refine cl_of ok27 (put27 hR6 hwf.nvb hwf.trl hw hl0) fun e w7 ⟨he7, o7, h7, hR7, ha7, k7⟩ => ⟨he7, nn_of (hR7.setRest fun w8 hR8 k8 => Or.inr (Or.inr (Or.inr ⟨rfl, hw, hrest, hl0, o7, h7, hR8, ?_, ?_⟩)))⟩
  · exact fun j hj => (ha7 j (by have := k14.size; have := k6.size; omega)).trans (ha6 j (by have := k14.size; omega))
  · have h6' := hR.selfO
    refine (((k14.none (S := fun i => tMine (o i))).trans k6 fun j hj hh => ?_).trans k7 fun j hj hh => ?_).trans k8 fun j hj hh => ?_
    · have hh' : tSt (o j) := hh
      show o j ≠ -9
      unfold tSt at hh'; omega
    · have hh' : tPut (o6 j) := hh
      rw [ha6 j (by have := k14.size; omega)] at hh'
      show o j ≠ -9
      unfold tPut at hh'; omega
    · rw [show j = b from hh]; exact fun e => by omega
end Go.Proofs.Ytjpblaenebodlaa.Wt

/- Watch: formed formulas. -/
set_option linter.unusedVariables false
set_option linter.unusedSimpArgs false
set_option linter.unusedSectionVars false
set_option maxRecDepth 100000
namespace Go.Proofs.Ytjpblaenebodlaa.Wt
open Go Go.Proofs.Ytjpblaenebodlaa.Vc Go.Proofs.Ytjpblaenebodlaa.T
open Go.Proofs.Ytjpblaenebodlaa.Apart (RdL own_rdl wrap_nat getE own_len copy same take_snoc Sl sv New)
open Go.Proofs.Ytjpblaenebodlaa.Lits (fl fl_iff idx idx_inj idx_range Ans ans_of indexP formedP tidyP Td Srt)

theorem allFormed59 {w : World} {p : Option Addr} {n c : Nat} {cs : List Int} (hRd : RdL w p n cs) (hn : n ≤ 17592186044416) :
    Calls Try.prog 59 #[.slice p n c] w fun e w' => ∃ r : Bool, e = .returned (.bool r) ∧ (r = true ↔ ∀ x ∈ cs, fl x = true) ∧ Keep None w w' := by
  refine (V59_calls p n c w (fun v w' => ∃ r : Bool, v = .bool r ∧ (r = true ↔ ∀ x ∈ cs, fl x = true) ∧ Keep None w w') ?_).mono fun e w' ⟨v, he, r, hv, hk⟩ => ⟨r, by rw [he, hv], hk⟩
  unfold V59
  have hll := hRd.len
  refine lp_of (fun s W => ∃ i : Nat, s.1 = (i : Int) ∧ i ≤ n ∧ Keep None w W ∧ ∀ x ∈ cs.take i, fl x = true) (fun s _ => (n - s.1).toNat) ⟨0, rfl, Nat.zero_le _, Keep.refl _ _, fun x hx => by simp at hx⟩ ?_
  rintro ⟨i', ⟨⟩⟩ W ⟨i, rfl, hi, kW, hv⟩
  simp only [] at hv ⊢
  refine pif_of (fun hlt => ?_) fun hge => ?_
  · have hlt : i < n := by simpa using hlt
    rw [wrap_nat i (by omega)]
    refine (hRd.keep0 kW).ix hlt fun a x hx ha => ldI_of ha ?_
    have hxc := List.mem_of_getElem? hx
    refine cl_of ok44 (formedP x) fun e w2 ⟨he, k2⟩ => ⟨_, he, ?_⟩
    refine pif_of (fun hq => ⟨false, rfl, ⟨fun hh => (by cases hh), fun hh => by rw [hh x hxc] at hq; cases hq⟩, kW.then0 k2⟩) fun hq => ?_
    refine ⟨⟨i + 1, rfl, hlt, kW.then0 k2, fun y hy => ?_⟩, by omega⟩
    rw [take_snoc hx] at hy
    rcases List.mem_append.1 hy with hy | hy
    · exact hv y hy
    · rw [List.mem_singleton.1 hy]; simpa using hq
  · have hge : i = n := by simp at hge; omega
    subst hge
    rw [← hll, List.take_length] at hv
    exact ⟨true, rfl, ⟨fun _ => hv, fun _ => rfl⟩, kW⟩
theorem within41 {w : World} {p : Option Addr} {n c : Nat} {cs : List Int} (hRd : RdL w p n cs) (hn : n ≤ 17592186044416) {nv : Nat} (hnv : nv ≤ 1048576) :
    Calls Try.prog 41 #[.slice p n c, I nv] w fun e w' => ∃ r : Bool, e = .returned (.bool r) ∧ (r = true ↔ ∀ x ∈ cs, Wi nv x) ∧ Keep None w w' := by
  refine (V41_calls p n c nv w (fun v w' => ∃ r : Bool, v = .bool r ∧ (r = true ↔ ∀ x ∈ cs, Wi nv x) ∧ Keep None w w') ?_).mono fun e w' ⟨v, he, r, hv, hk⟩ => ⟨r, by rw [he, hv], hk⟩
  unfold V41
  have hll := hRd.len
  refine cl_of ok59 (allFormed59 hRd hn) fun e w1 ⟨r, he, hr, k1⟩ => ⟨r, he, ?_⟩
  refine pif_of (fun hq => ⟨false, rfl, ⟨fun hh => (by cases hh), fun hh => ?_⟩, k1⟩) fun hq => ?_
  · rw [hr.2 fun x hx => wi_fl hnv (hh x hx)] at hq; cases hq
  have hf := hr.1 (by simpa using hq)
  refine lp_of (fun s W => ∃ i : Nat, s.1 = (i : Int) ∧ i ≤ n ∧ Keep None w W ∧ ∀ x ∈ cs.take i, Wi nv x) (fun s _ => (n - s.1).toNat) ⟨0, rfl, Nat.zero_le _, k1, fun x hx => by simp at hx⟩ ?_
  rintro ⟨i', ⟨⟩⟩ W ⟨i, rfl, hi, kW, hv⟩
  simp only [] at hv ⊢
  refine pif_of (fun hlt => ?_) fun hge => ?_
  · have hlt : i < n := by simpa using hlt
    rw [wrap_nat i (by omega)]
    refine (hRd.keep0 kW).ix hlt fun a x hx ha => ldI_of ha ?_
    have hxc := List.mem_of_getElem? hx
    have h3 := fl_iff.1 (hf x hxc)
    refine cl_of ok45 (var45 (hf x hxc)) fun e w2 ⟨he, k2⟩ => ⟨_, he, ?_⟩
    refine pif_of (fun hq => ⟨false, rfl, ⟨fun hh => (by cases hh), fun hh => ?_⟩, kW.then0 k2⟩) fun hq => ?_
    · have hq := of_decide_eq_true hq
      have := hh x hxc
      unfold Wi at this
      omega
    · have hq := of_decide_eq_false hq
      refine ⟨⟨i + 1, rfl, hlt, kW.then0 k2, fun y hy => ?_⟩, by omega⟩
      rw [take_snoc hx] at hy
      rcases List.mem_append.1 hy with hy | hy
      · exact hv y hy
      · rw [List.mem_singleton.1 hy]
        unfold Wi
        omega
  · have hge : i = n := by simp at hge; omega
    subst hge
    rw [← hll, List.take_length] at hv
    exact ⟨true, rfl, ⟨fun _ => hv, fun _ => rfl⟩, kW⟩
end Go.Proofs.Ytjpblaenebodlaa.Wt

/- Watch: formulas in memory; Formed. -/
set_option linter.unusedVariables false
set_option linter.unusedSimpArgs false
set_option linter.unusedSectionVars false
set_option maxRecDepth 100000
namespace Go.Proofs.Ytjpblaenebodlaa.Wt
open Go Go.Proofs.Ytjpblaenebodlaa.Vc Go.Proofs.Ytjpblaenebodlaa.T
open Go.Proofs.Ytjpblaenebodlaa.Apart (RdL own_rdl wrap_nat getE own_len copy same take_snoc Sl sv New)
open Go.Proofs.Ytjpblaenebodlaa.Lits (fl fl_iff idx idx_inj idx_range Ans ans_of indexP formedP tidyP Td Srt)

/-- a list of lists wherever it lies, in blocks of B -/
structure RdC (B : Nat → Prop) (w : World) (p : Option Addr) (n : Nat) (css : List (List Int)) : Prop where
  len : css.length = n
  cell : ∀ (i : Nat) (es : List Int), css[i]? = some es → ∃ (a : Addr) (q : Option Addr) (m c : Nat), p = some a ∧ w.cell? (a.add i) = some (.slice q m c) ∧ RdL w q m es ∧ B a.block ∧ ∀ j, ob q j → 0 < m → B j
theorem rdl_keep {S : Nat → Prop} {w w' : World} {q : Option Addr} {m : Nat} {es : List Int} (h : RdL w q m es) (hk : Keep S w w') (hs : ∀ j, ob q j → 0 < m → ¬ S j) : RdL w' q m es := by
  by_cases hm : m = 0
  · subst hm
    have := List.eq_nil_of_length_eq_zero h.len
    subst this
    exact ⟨rfl, fun i x hx => by simp at hx⟩
  · exact h.keep hk fun j hj => hs j hj (by omega)
section
variable {B : Nat → Prop} {w w' : World} {p : Option Addr} {n : Nat} {css : List (List Int)}
theorem blk_add (a : Addr) (i : Nat) : (a.add i).block = a.block := by unfold Addr.add; split <;> rfl
theorem RdC.keep {S : Nat → Prop} (h : RdC B w p n css) (hk : Keep S w w') (hs : ∀ i, B i → ¬ S i) : RdC B w' p n css :=
  ⟨h.len, fun i es hi => by
    obtain ⟨a, q, m, c, h1, h2, h3, h4, h5⟩ := h.cell i es hi
    exact ⟨a, q, m, c, h1, hk.cell h2 (by rw [blk_add]; exact hs _ h4), rdl_keep h3 hk fun j hj h0 => hs j (h5 j hj h0), h4, h5⟩⟩
theorem RdC.keep0 (h : RdC B w p n css) (hk : Keep None w w') : RdC B w' p n css := h.keep hk fun _ _ h => h
theorem RdC.ix (h : RdC B w p n css) {i : Nat} {es : List Int} (hx : css[i]? = some es) {K : Addr → Prop} (hk : ∀ a q m c, w.cell? a = some (.slice q m c) → RdL w q m es → K a) : ixA p n (i : Int) 1 K := by
  have hl := h.len
  have hi := (List.getElem?_eq_some_iff.1 hx).1
  obtain ⟨a, q, m, c, rfl, h2, h3, _⟩ := h.cell i es hx
  refine ⟨by omega, by omega, ?_⟩
  show K _
  rw [Nat.mul_one, Int.toNat_natCast]
  exact hk _ q m c h2 h3
end
def FormedF (nv : Int) (css : List (List Int)) : Prop := 0 ≤ nv ∧ nv ≤ 1048576 ∧ ∀ c ∈ css, ∀ x ∈ c, Wi nv.toNat x
theorem formed23 {B : Nat → Prop} {w : World} {nv : Int} {p : Option Addr} {n c : Nat} {css : List (List Int)} (hC : RdC B w p n css) (hn : n ≤ 17592186044416) (hl : ∀ es ∈ css, es.length ≤ 17592186044416) :
    Calls Try.prog 23 #[.agg #[I nv, .slice p n c]] w fun e w' => ∃ r : Bool, e = .returned (.bool r) ∧ (r = true ↔ FormedF nv css) ∧ Keep None w w' := by
  refine (V23_calls nv p n c w (fun v w' => ∃ r : Bool, v = .bool r ∧ (r = true ↔ FormedF nv css) ∧ Keep None w w') ?_).mono fun e w' ⟨v, he, r, hv, hk⟩ => ⟨r, by rw [he, hv], hk⟩
  unfold V23
  have hll := hC.len
  refine alc_at fun b2 w1 hb2 hB2 k1 => ?_
  refine ldI_of (x := nv) (by rw [add_mk]; exact hB2.cell 0) ?_
  have cont : nv < 0 ∨ nv > 1048576 → ¬ FormedF nv css := fun h hf => by obtain ⟨a, b, _⟩ := hf; omega
  refine gd_of (fun h => ?_) fun h => ?_
  · have h0 : ¬ nv < 0 := by simpa using h
    have hd : decide (nv < 0) = false := decide_eq_false h0
    refine ldI_of (x := nv) (by rw [add_mk]; exact hB2.cell 0) ?_
    rw [hd]
    refine pif_of (fun hq => ⟨false, rfl, ⟨fun hh => (by cases hh), fun hh => absurd hh (cont (Or.inr (by simpa using hq)))⟩, k1⟩) fun hq => ?_
    have hle : nv ≤ 1048576 := by have : ¬ nv > 1048576 := by simpa using hq
                                  omega
    obtain ⟨m, rfl⟩ := Int.eq_ofNat_of_zero_le (show 0 ≤ nv by omega)
    refine ldC_of (x := p) (n := n) (c := c) (by rw [add_mk]; exact hB2.cell 1) ?_
    refine lp_of (fun s W => ∃ i : Nat, s.1 = (i : Int) ∧ i ≤ n ∧ Keep None w1 W ∧ ∀ es ∈ css.take i, ∀ x ∈ es, Wi m x) (fun s _ => (n - s.1).toNat) ⟨0, rfl, Nat.zero_le _, Keep.refl _ _, fun x hx => by simp at hx⟩ ?_
    rintro ⟨i', ⟨⟩⟩ W ⟨i, rfl, hi, kW, hv⟩
    simp only [] at hv ⊢
    refine pif_of (fun hlt => ?_) fun hge => ?_
    · have hlt : i < n := by simpa using hlt
      rw [wrap_nat i (by omega)]
      obtain ⟨es, hes⟩ := getE (show i < css.length by omega)
      have hm := List.mem_of_getElem? hes
      refine ((hC.keep0 k1).keep0 kW).ix hes fun a q k cc ha hRd => ldC_of ha (ldI_of (x := (m : Nat)) (by rw [add_mk]; exact (hB2.keep0 kW).cell 0) ?_)
      refine cl_of ok41 (within41 hRd (by rw [← hRd.len]; exact hl es hm) (nv := m) (by omega)) fun e w3 ⟨r, he, hr, k3⟩ => ⟨r, he, ?_⟩
      refine pif_of (fun hq => ⟨false, rfl, ⟨fun hh => (by cases hh), fun hh => ?_⟩, (k1.then0 kW).then0 k3⟩) fun hq => ?_
      · rw [hr.2 (hh.2.2 es hm)] at hq; cases hq
      · refine ⟨⟨i + 1, rfl, hlt, kW.then0 k3, fun y hy => ?_⟩, by omega⟩
        rw [List.take_add_one, hes] at hy
        rcases List.mem_append.1 hy with hy | hy
        · exact hv y hy
        · rw [List.mem_singleton.1 hy]; exact hr.1 (by simpa using hq)
    · have hge : i = n := by simp at hge; omega
      subst hge
      rw [← hll, List.take_length] at hv
      exact ⟨true, rfl, ⟨fun _ => ⟨by omega, hle, hv⟩, fun _ => rfl⟩, k1.then0 kW⟩
  · have h0 : nv < 0 := by simpa using h
    exact pif_t (by rw [decide_eq_true h0]; rfl) ⟨false, rfl, ⟨fun hh => (by cases hh), fun hh => absurd hh (cont (Or.inl h0))⟩, k1⟩
end Go.Proofs.Ytjpblaenebodlaa.Wt

/- Watch: New. -/
set_option linter.unusedVariables false
set_option linter.unusedSimpArgs false
set_option linter.unusedSectionVars false
set_option maxRecDepth 100000
namespace Go.Proofs.Ytjpblaenebodlaa.Wt
open Go Go.Proofs.Ytjpblaenebodlaa.Vc Go.Proofs.Ytjpblaenebodlaa.T
open Go.Proofs.Ytjpblaenebodlaa.Apart (RdL own_rdl wrap_nat getE own_len copy same take_snoc Sl sv New)
open Go.Proofs.Ytjpblaenebodlaa.Lits (fl fl_iff idx idx_inj idx_range Ans ans_of indexP formedP tidyP Td Srt mk2_of)

/-- a Watch that knows nothing -/
def W0 (m : Nat) : WS := ⟨m, [], [], 0, fun _ => none, List.replicate (2 * m) [], [], false, false⟩
theorem W0_ls {m i : Nat} {ids : List Nat} (h : (W0 m).ls[i]? = some ids) : ids = [] := by
  have := List.mem_of_getElem? h
  exact (List.mem_replicate.1 this).2
theorem At.new {m : Nat} (hm : m ≤ 1048576) : At [] (W0 m) := by
  have nin : ∀ i h, ¬ hIn (W0 m).ls i h := fun i h ⟨ids, hi, hh⟩ => by rw [W0_ls hi] at hh; cases hh
  refine ⟨⟨⟨hm, (fun l hl => by cases hl), List.nodup_nil, (fun l hl => by cases hl), Nat.zero_le _, (fun h L u v hH => by cases hH), (fun i ids hi => by rw [W0_ls hi]; exact ⟨Nat.zero_le _, fun h hh => by cases hh⟩), Nat.zero_le _, (fun h hh => by cases hh)⟩, Nat.le_refl _, (fun s hs => by cases hs), Nat.le_refl _, Nat.le_refl _, Nat.le_refl _,
    (fun i h hi => absurd hi (nin i h)), (fun i ids hi => by rw [W0_ls hi]; exact List.nodup_nil), (fun i h L u v hi => absurd hi (nin i h)), ⟨[], Nat.zero_le _, fun h hh => absurd rfl hh⟩, (fun c hc => by cases hc), (fun h L u v hH => by cases hH), Nat.zero_le _, List.nodup_nil, (fun h hh => by cases hh)⟩, List.Pairwise.nil, fun hf => by cases hf⟩
theorem vals_new (m : Nat) : vals m [] = List.replicate (m + 1) (J8 0) := by
  unfold vals
  apply List.ext_getElem
  · simp
  · intro i h1 h2
    simp [lv]
theorem Rp.new {w : World} {b bv bo : Nat} {o : Nat → Int} {m : Nat} (hm : m ≤ 1048576) (hS : Blk w b [.slice (some ⟨bv, 0, none⟩) (m + 1) (m + 1), .slice none 0 0, .slice none 0 0, I 0, .slice (some ⟨bo, 0, none⟩) (2 * m) (2 * m), .slice none 0 0, .bool false, .bool false] 64)
    (hV : Blk w bv (List.replicate (m + 1) (J8 0)) 67) (hO : Blk w bo (List.replicate (2 * m) (.slice none 0 0)) 62) (ob6 : o b = -6) (ob1 : o bv = -1) (ob4 : o bo = -4) :
    Rp noEx w b o ⟨(some ⟨bv, 0, none⟩, m + 1, m + 1), (none, 0, 0), (none, 0, 0), (some ⟨bo, 0, none⟩, 2 * m, 2 * m), (none, 0, 0), List.replicate (2 * m) (none, 0, 0)⟩ (W0 m) := by
  have no : ∀ {t : Int} (i : Nat), ob (none : Option Addr) i → o i = t := fun i ⟨a, hh, _⟩ => by cases hh
  have hx : ∀ (i : Nat) (x : Sl), (List.replicate (2 * m) ((none, 0, 0) : Sl))[i]? = some x → x = (none, 0, 0) := fun i x h => (List.mem_replicate.1 (List.mem_of_getElem? h)).2
  refine ⟨hS, ob6, Or.inr ⟨bv, _, rfl, hV, Nat.le_refl _, by simp only [maxLen]; omega, by simp, ?_⟩, ?_, Own.nil _ _ _, fun i hi => no i hi, Own.nil _ _ _, fun i hi => no i hi, Or.inr ⟨bo, _, rfl, hO, Nat.le_refl _, by simp only [maxLen]; omega, by simp, ?_⟩, ?_, by simp [W0], by simp [W0], fun i x ids h1 h2 _ => ?_, fun i x h1 j hj => ?_, Own.nil _ _ _, fun i hi => no i hi, fun i L u v hH => by cases hH⟩
  · show _ = vals m []
    rw [vals_new]
    simp
  · rintro i ⟨a, ha, rfl⟩; cases ha; exact ob1
  · simp [sv]
  · rintro i ⟨a, ha, rfl⟩; cases ha; exact ob4
  · rw [hx i x h1, W0_ls h2]; exact Own.nil _ _ _
  · rw [hx i x h1] at hj
    obtain ⟨a, hh, _⟩ := hj; cases hh
/-- a new Watch takes its clauses in -/
def Newly (w : World) (nv : Int) (css : List (List Int)) (v : Value) (w' : World) : Prop :=
  (v = .tuple #[.pointer none, I 1] ∧ ¬ FormedF nv css ∧ Keep None w w') ∨
  ∃ b o h S, v = .tuple #[Pt b, I 0] ∧ FormedF nv css ∧ w.heap.size ≤ b ∧ Keep None w w' ∧ Rp noEx w' b o h S ∧ At css S ∧ S.nv = nv.toNat ∧ S.tr = [] ∧ S.st = [] ∧ S.rest = false ∧ S.clash = false ∧ ∀ i, i < w.heap.size → o i = -9
theorem newLoop {B : Nat → Prop} {w : World} {b : Nat} {o : Nat → Int} {h : Hs} {m : Nat} (hm : m ≤ 1048576) (hR : Rp noEx w b o h (W0 m)) {p : Option Addr} {n : Nat} {css : List (List Int)} (hC : RdC B w p n css) (hB : ∀ i, B i → o i = -9 ∧ i < w.heap.size) (hn : n ≤ cap) (hl : ∀ es ∈ css, es.length ≤ 17592186044416) (hw : ∀ es ∈ css, ∀ x ∈ es, Wi m x) {K : World → Prop}
    (hK : ∀ w' o' h' S, Rp noEx w' b o' h' S → At css S → S.nv = m → S.tr = [] → S.st = [] → S.rest = false → S.clash = false → Ag w o o' → Keep (fun i => tMine (o i)) w w' → K w') :
    lp (σ := Int × Unit) (fun s w6 k => match s with
      | (v, _) =>
      pif (decide (v < (n : Int))) (
        ixA p n v 1 fun p23 =>
        ldC w6 p23 fun x24 x24n x24c =>
        cl Try.prog 24 [.pointer (some (⟨b, 0, none⟩ : Addr)), .slice x24 x24n x24c] w6 fun e26 w7 => e26 = Ending.returned (.tuple #[]) ∧
        k ((IntKind.wrap .i64 (v + 1)), ()) w7) (
        K w6)) (0, ()) w := by
  have hll := hC.len
  refine lp_of (fun s W => ∃ (i : Nat) (S : WS) (o1 : Nat → Int) (h1 : Hs), s.1 = (i : Int) ∧ i ≤ n ∧ Rp noEx W b o1 h1 S ∧ At (css.take i) S ∧ Fh (W0 m) S ∧ Ag w o o1 ∧ Keep (fun i => tMine (o i)) w W) (fun s _ => (n - s.1).toNat) ⟨0, W0 m, o, h, rfl, Nat.zero_le _, hR, At.new hm, Fh.refl _, Ag.refl _ _, Keep.refl _ _⟩ ?_
  rintro ⟨i', ⟨⟩⟩ W ⟨i, S, o1, h1, rfl, hi, hR1, hA1, hF1, ha1, k1⟩
  simp only []
  refine pif_of (fun hlt => ?_) fun hge => ?_
  · have hlt : i < n := by simpa using hlt
    have hcap : cap ≤ 8796093022208 := Nat.le_refl _
    rw [wrap_nat i (by omega)]
    obtain ⟨es, hes⟩ := getE (show i < css.length by omega)
    have hmm := List.mem_of_getElem? hes
    have hCW : RdC B W p n css := hC.keep k1 fun j hj hh => hh (hB j hj).1
    refine hCW.ix hes fun a q k cc ha hRd => ldC_of ha ?_
    refine cl_of ok24 (hold24 hR1 hA1.iv hRd (by rw [← hRd.len]; exact hl es hmm) (fun x hx => by rw [hF1.nv]; exact hw es hmm x hx) (by rw [List.length_take]; omega)) fun e w2 ⟨he2, S2, ⟨o2, h2, hR2, ha2, k2⟩, hI2, hF⟩ => ⟨he2, ⟨i + 1, S2, o2, h2, rfl, hlt, hR2, ⟨?_, ?_, fun hh => ?_⟩, ⟨hF.nv.trans hF1.nv, hF.tr.trans hF1.tr, hF.st.trans hF1.st, hF.hd.trans hF1.hd, hF.rest.trans hF1.rest, hF.clash.trans hF1.clash⟩, ha1.trans ha2 k1.size, keep_ag k1 ha1 k2⟩, by omega⟩
    · rw [List.take_add_one, hes]
      rw [← hF.hd, ← hF.tr] at hI2
      exact hI2
    · rw [hF.st]; exact hA1.st1
    · rw [hF.rest, hF1.rest] at hh; cases hh
  · have hge : i = n := by simp at hge; omega
    subst hge
    rw [← hll, List.take_length] at hA1
    exact hK W o1 h1 S hR1 hA1 hF1.nv hF1.tr hF1.st hF1.rest hF1.clash ha1 k1
theorem new7 {B : Nat → Prop} {w : World} {nv : Int} {p : Option Addr} {n c : Nat} {css : List (List Int)} (hC : RdC B w p n css) (hB : ∀ i, B i → i < w.heap.size) (hn : n ≤ cap) (hl : ∀ es ∈ css, es.length ≤ 17592186044416) :
    Calls Try.prog 7 #[.agg #[I nv, .slice p n c]] w fun e w' => ∃ v, e = .returned v ∧ Newly w nv css v w' := by
  refine V7_calls nv p n c w (Newly w nv css) ?_
  have hcap : cap ≤ 8796093022208 := Nat.le_refl _
  unfold V7
  refine alc_at fun b2 w1 hb2 hB2 k1 => ?_
  refine ldI_of (x := nv) (by rw [add_mk]; exact hB2.cell 0) ?_
  refine ldC_of (x := p) (n := n) (c := c) (by rw [add_mk]; exact hB2.cell 1) ?_
  refine cl_of ok23 (formed23 (hC.keep0 k1) (by omega) hl) fun e w2 ⟨r, he, hr, k2⟩ => ⟨r, he, ?_⟩
  have hB2' := hB2.keep0 k2
  refine pif_of (fun hq => Or.inl ⟨rfl, fun hf => ?_, k1.then0 k2⟩) fun hq => ?_
  · rw [hr.2 hf] at hq; cases hq
  have hf := hr.1 (by simpa using hq)
  have hf' := hf
  obtain ⟨h0, h1, hw⟩ := hf
  obtain ⟨m, rfl⟩ := Int.eq_ofNat_of_zero_le h0
  have hwm : ∀ es ∈ css, ∀ x ∈ es, Wi m x := hw
  have hm : m ≤ 1048576 := by omega
  have e1 : IntKind.wrap .i64 ((m : Int) + 1) = ((m + 1 : Nat) : Int) := by rw [IntKind.wrap_i64]; omega
  have e2 : IntKind.wrap .i64 (2 * (m : Int)) = ((2 * m : Nat) : Int) := by rw [IntKind.wrap_i64]; omega
  refine ldI_of (x := (m : Int)) (by rw [add_mk]; exact hB2'.drew.cell 0) ?_
  refine ldI_of (x := (m : Int)) (by rw [add_mk]; exact hB2'.drew.cell 0) ?_
  rw [e1, e2]
  have k2d : Keep None w w2.drew := (k1.then0 k2).drew
  have fin : ∀ {w5 : World} {bS bV bO : Nat} (kk : Keep None w w5) (hS : Blk w5 bS [.slice (some ⟨bV, 0, none⟩) (m + 1) (m + 1), .slice none 0 0, .slice none 0 0, I 0, .slice (some ⟨bO, 0, none⟩) (2 * m) (2 * m), .slice none 0 0, .bool false, .bool false] 64)
      (hV : Blk w5 bV (List.replicate (m + 1) (J8 0)) 67) (hO : Blk w5 bO (List.replicate (2 * m) (.slice none 0 0)) 62) (g1 : w.heap.size ≤ bS) (g2 : w.heap.size ≤ bV) (g3 : w.heap.size ≤ bO) (d1 : bV ≠ bS) (d2 : bO ≠ bS) (d3 : bO ≠ bV),
      lp (σ := Int × Unit) (fun s w6 k => match s with
      | (v, _) =>
      pif (decide (v < (n : Int))) (
        ixA p n v 1 fun p23 =>
        ldC w6 p23 fun x24 x24n x24c =>
        cl Try.prog 24 [.pointer (some (⟨bS, 0, none⟩ : Addr)), .slice x24 x24n x24c] w6 fun e26 w7 => e26 = Ending.returned (.tuple #[]) ∧
        k ((IntKind.wrap .i64 (v + 1)), ()) w7) (
        Newly w (m : Int) css (.tuple #[.pointer (some (⟨bS, 0, none⟩ : Addr)), .int .i64 0]) w6)) (0, ()) w5 := by
    intro w5 bS bV bO kk hS hV hO g1 g2 g3 d1 d2 d3
    have hR := Rp.new (o := fun i => if i = bS then -6 else if i = bV then -1 else if i = bO then -4 else -9) hm hS hV hO (if_pos rfl) (by show (if _ then _ else _) = _; rw [if_neg d1, if_pos rfl]) (by show (if _ then _ else _) = _; rw [if_neg d2, if_neg d3, if_pos rfl])
    have old : ∀ i, i < w.heap.size → (if i = bS then (-6 : Int) else if i = bV then -1 else if i = bO then -4 else -9) = -9 := fun i hi => by
      rw [if_neg (by omega), if_neg (by omega), if_neg (by omega)]
    refine newLoop (o := fun i => if i = bS then -6 else if i = bV then -1 else if i = bO then -4 else -9) hm hR (hC.keep0 kk) (fun i hi => ⟨old i (hB i hi), Nat.lt_of_lt_of_le (hB i hi) kk.size⟩) hn hl hwm fun w' o' h' S hR' hA hSn hSt hSs hSr hSc ha k => ?_
    refine Or.inr ⟨bS, o', h', S, rfl, hf', g1, kk.trans k fun i hi ht => ?_, hR', hA, ?_, hSt, hSs, hSr, hSc, fun i hi => ?_⟩
    · rw [old i hi] at ht
      exact absurd ht (by unfold tMine; decide)
    · rw [hSn]; rfl
    · rw [ha i (Nat.lt_of_lt_of_le hi kk.size)]; exact old i hi
  refine ⟨?_, ?_⟩
  · refine mk_of Try.underlying60 (z := J8 0) (B := 1) (by kernel_rfl) rfl (by omega) (by omega) (by omega) fun bV w3 hbV hV k3 => ?_
    refine ⟨ldI_of (x := (m : Int)) (by rw [add_mk]; exact (hB2'.drew.keep0 k3).cell 0) rfl, ?_⟩
    refine mk_of Try.underlying61 (z := .slice none 0 0) (B := 24) (by kernel_rfl) rfl (by omega) (by omega) (by omega) fun bO w4 hbO hO k4 => ?_
    refine ⟨ldI_of (x := (m : Int)) (by rw [add_mk]; exact ((hB2'.drew.keep0 k3).keep0 k4).cell 0) rfl, ?_⟩
    refine alc_at fun bS w5 hbS hS k5 => ?_
    refine ldC_of (x := p) (n := n) (c := c) (by rw [add_mk]; exact (((hB2'.drew.keep0 k3).keep0 k4).keep0 k5).cell 1) ?_
    rw [Int.toNat_natCast] at hV hO hS
    have s3 := k3.size; have s4 := k4.size; have s2 := k2d.size
    have l3 := hV.lt; have l4 := hO.lt
    exact fin (((k2d.then0 k3).then0 k4).then0 k5) hS ((hV.keep0 k4).keep0 k5) (hO.keep0 k5) (by omega) (by omega) (by omega) (by omega) (by omega) (by omega)
  · refine mk_of Try.underlying61 (z := .slice none 0 0) (B := 24) (by kernel_rfl) rfl (by omega) (by omega) (by omega) fun bO w3 hbO hO k3 => ?_
    refine ⟨ldI_of (x := (m : Int)) (by rw [add_mk]; exact (hB2'.drew.keep0 k3).cell 0) rfl, ?_⟩
    refine mk_of Try.underlying60 (z := J8 0) (B := 1) (by kernel_rfl) rfl (by omega) (by omega) (by omega) fun bV w4 hbV hV k4 => ?_
    refine ⟨ldI_of (x := (m : Int)) (by rw [add_mk]; exact ((hB2'.drew.keep0 k3).keep0 k4).cell 0) rfl, ?_⟩
    refine alc_at fun bS w5 hbS hS k5 => ?_
    refine ldC_of (x := p) (n := n) (c := c) (by rw [add_mk]; exact (((hB2'.drew.keep0 k3).keep0 k4).keep0 k5).cell 1) ?_
    rw [Int.toNat_natCast] at hV hO hS
    have s3 := k3.size; have s4 := k4.size; have s2 := k2d.size
    have l3 := hO.lt; have l4 := hV.lt
    exact fin (((k2d.then0 k3).then0 k4).then0 k5) hS (hV.keep0 k5) ((hO.keep0 k4).keep0 k5) (by omega) (by omega) (by omega) (by omega) (by omega) (by omega)
end Go.Proofs.Ytjpblaenebodlaa.Wt

/- Watch, in plain: what follows is what a Run knows. -/
set_option linter.unusedVariables false
set_option linter.unusedSimpArgs false
set_option linter.unusedSectionVars false
set_option maxRecDepth 100000
namespace Go.Proofs.Ytjpblaenebodlaa.Wt
open Go Go.Proofs.Ytjpblaenebodlaa.Vc

section
variable {C C' : List (List Int)} {K K' tr : List Int}
theorem Der.cut {x : Int} (h : Der C K x) (hk : ∀ y ∈ K, Der C K' y) : Der C K' x := by
  induction h with
  | fact h => exact hk _ h
  | unit hc hl _ ih => exact Der.unit hc hl ih
theorem Der.more {x : Int} (h : Der C K x) (hC : ∀ c ∈ C, c ∈ C') (hk : ∀ y ∈ K, y ∈ K') : Der C' K' x := by
  induction h with
  | fact h => exact Der.fact (hk _ h)
  | unit hc hl _ ih => exact Der.unit (hC _ hc) hl ih
theorem Clash.cut (h : Clash C K) (hk : ∀ y ∈ K, Der C K' y) : Clash C K' := by
  obtain ⟨c, hc, hx⟩ := h
  exact ⟨c, hc, fun x h => (hx x h).cut hk⟩
theorem Clash.more (h : Clash C K) (hC : ∀ c ∈ C, c ∈ C') (hk : ∀ y ∈ K, y ∈ K') : Clash C' K' := by
  obtain ⟨c, hc, hx⟩ := h
  exact ⟨c, hC c hc, fun x h => (hx x h).more hC hk⟩
/-- what is closed has all that follows -/
theorem closed_der (h : Closed C tr) (hc : Cons tr) (h0 : ∀ c ∈ C, ∀ x ∈ c, x ≠ 0) (hk : ∀ x ∈ K, x ∈ tr) {x : Int} (hx : Der C K x) : x ∈ tr := by
  induction hx with
  | fact h => exact hk _ h
  | @unit c l hcC hl _ ih =>
    apply Classical.byContradiction
    intro hn
    rcases h c hcC with ⟨x, hx, hxn⟩ | ⟨x, hx, hxt⟩ | ⟨x, hx, y, hy, hne, h1, h2⟩
    · have hz := h0 c hcC x hx
      by_cases e1 : x = l
      · have := ih (-x) hxn (by rw [← e1]; omega)
        rw [Int.neg_neg, e1] at this
        exact hn this
      · by_cases e2 : -x = l
        · have := ih x hx e1
          rw [e2] at this; exact hn this
        · have a1 := ih x hx e1
          have a2 := ih (-x) hxn e2
          exact hc _ a1 a2
    · by_cases e1 : x = l
      · rw [e1] at hxt; exact hn hxt
      · exact hc _ hxt (ih x hx e1)
    · by_cases e1 : x = l
      · have e2 : y ≠ l := fun e => hne (e1.trans e.symm)
        exact h2 (ih y hy e2)
      · exact h1 (ih x hx e1)
theorem closed_clash (h : Closed C tr) (hc : Cons tr) (h0 : ∀ c ∈ C, ∀ x ∈ c, x ≠ 0) (hk : ∀ x ∈ K, x ∈ tr) : ¬ Clash C K := by
  rintro ⟨c, hcC, hx⟩
  have hd := fun x hx' => closed_der h hc h0 hk (hx x hx')
  rcases h c hcC with ⟨x, hx, hxn⟩ | ⟨x, hx, hxt⟩ | ⟨x, hx, y, hy, hne, h1, h2⟩
  · have := hd _ hx
    exact hc _ this (hd _ hxn)
  · exact hc _ hxt (hd _ hx)
  · exact h1 (hd _ hx)
end
/-- what a model makes true -/
theorem der_true {C : List (List Int)} {K : List Int} {T : Int → Prop} (hT : ∀ x, T x → ¬ T (-x)) (hC : ∀ c ∈ C, ∃ x ∈ c, T x) (hK : ∀ x ∈ K, T x) {x : Int} (h : Der C K x) : T x := by
  induction h with
  | fact h => exact hK _ h
  | @unit c l hc hl _ ih =>
    obtain ⟨y, hy, ht⟩ := hC c hc
    by_cases e : y = l
    · rw [← e]; exact ht
    · exact absurd (ih y hy e) (hT y ht)
theorem clash_true {C : List (List Int)} {K : List Int} {T : Int → Prop} (hT : ∀ x, T x → ¬ T (-x)) (hC : ∀ c ∈ C, ∃ x ∈ c, T x) (hK : ∀ x ∈ K, T x) : ¬ Clash C K := by
  rintro ⟨c, hc, hx⟩
  obtain ⟨y, hy, ht⟩ := hC c hc
  exact hT y ht (der_true hT hC hK (hx y hy))
/-- an answer of Run, in plain: its literals are just what follows -/
theorem run_plain {C : List (List Int)} {S S' : WS} {v : Bool} (hA' : At C S') (hr : S'.rest = v) (h0 : ∀ c ∈ C, ∀ x ∈ c, x ≠ 0)
    (ht : v = true → S.tr <+: S'.tr ∧ ∀ x ∈ S'.tr, Der C S.tr x) (hf : v = false → S'.tr = S.tr ∧ Clash C S.tr) :
    (v = true ↔ ¬ Clash C S.tr) ∧ (v = true → ∀ x, x ∈ S'.tr ↔ Der C S.tr x) := by
  cases v with
  | true =>
    obtain ⟨hp, hd⟩ := ht rfl
    obtain ⟨_, hc⟩ := hA'.rest hr
    have hcs := hA'.iv.wf.cons
    have hk : ∀ x ∈ S.tr, x ∈ S'.tr := fun x hx => hp.subset hx
    exact ⟨⟨fun _ => closed_clash hc hcs h0 hk, fun _ => rfl⟩, fun _ x => ⟨fun hx => hd x hx, fun hx => closed_der hc hcs h0 hk hx⟩⟩
  | false =>
    obtain ⟨_, hcl⟩ := hf rfl
    exact ⟨⟨fun h => (by cases h), fun h => absurd hcl h⟩, fun h => by cases h⟩
end Go.Proofs.Ytjpblaenebodlaa.Wt

/- A Watch as a whole: where it lies, what it knows; its methods by that. -/
set_option linter.unusedVariables false
set_option linter.unusedSimpArgs false
set_option linter.unusedSectionVars false
set_option maxRecDepth 100000
namespace Go.Proofs.Ytjpblaenebodlaa.Wt
open Go Go.Proofs.Ytjpblaenebodlaa.Vc Go.Proofs.Ytjpblaenebodlaa.T
open Go.Proofs.Ytjpblaenebodlaa.Apart (RdL own_rdl wrap_nat getE own_len copy same take_snoc Sl sv New)
open Go.Proofs.Ytjpblaenebodlaa.Lits (fl fl_iff idx idx_inj idx_range Ans ans_of indexP formedP tidyP Td Srt)

/-- a Watch in the blocks M -/
structure Wa (M : Nat → Prop) (w : World) (b : Nat) (C : List (List Int)) (S : WS) : Prop where
  rp : ∃ o h, Rp noEx w b o h S ∧ ∀ i, i < w.heap.size → tMine (o i) → M i
  at_ : At C S
  cw : ∀ c ∈ C, ∀ x ∈ c, Wi S.nv x
  lt : ∀ i, M i → i < w.heap.size
  dp : S.st.length ≤ S.tr.length ∧ ∀ (i s : Nat), S.st[i]? = some s → i ≤ s
/-- the blocks of a thing are new, or were its own -/
def Grow (M : Nat → Prop) (w : World) (M' : Nat → Prop) : Prop := ∀ i, M' i → M i ∨ w.heap.size ≤ i
section
variable {M M' : Nat → Prop} {w w' : World} {b : Nat} {C : List (List Int)} {S S' : WS}
theorem Wa.keep {U : Nat → Prop} (h : Wa M w b C S) (hk : Keep U w w') (hU : ∀ i, U i → ¬ M i) : Wa M w' b C S := by
  obtain ⟨o, hs, hR, ho⟩ := h.rp
  have hR1 : Rp noEx w b (fun i => if i < w.heap.size then o i else -9) hs S := hR.reown fun i hi => if_pos hi
  refine ⟨⟨fun i => if i < w.heap.size then o i else -9, hs, hR1.keepN hk fun i hi hu => ?_, fun i _ ht => ?_⟩, h.at_, h.cw, fun i hi => Nat.lt_of_lt_of_le (h.lt i hi) hk.size, h.dp⟩
  · show (if i < w.heap.size then o i else -9) = -9
    rw [if_pos hi]
    apply Classical.byContradiction
    intro hne
    exact hU i hu (ho i hi hne)
  · by_cases hi : i < w.heap.size
    · refine ho i hi ?_
      have ht : (if i < w.heap.size then o i else -9) ≠ -9 := ht
      rw [if_pos hi] at ht; exact ht
    · have ht : (if i < w.heap.size then o i else -9) ≠ -9 := ht
      rw [if_neg hi] at ht; exact absurd rfl ht
theorem Wa.keep0 (h : Wa M w b C S) (hk : Keep None w w') : Wa M w' b C S := h.keep hk fun i hi => hi.elim
theorem Wa.blk (h : Wa M w b C S) : M b := by
  obtain ⟨o, hs, hR, ho⟩ := h.rp
  exact ho b hR.self.lt (by rw [hR.selfO]; unfold tMine; decide)
/-- what a method leaves -/
structure After (M : Nat → Prop) (w : World) (b : Nat) (C : List (List Int)) (S : WS) (M' : Nat → Prop) (w' : World) : Prop where
  wa : Wa M' w' b C S
  gr : Grow M w M'
  kp : Keep M w w'
theorem After.same (h : Wa M w b C S) (hk : Keep None w w') : After M w b C S M w' := ⟨h.keep0 hk, fun i hi => Or.inl hi, hk.none⟩
/-- out of the walk's word -/
theorem after_of {o : Nat → Int} {hs : Hs} (hR : Rp noEx w b o hs S) (ho : ∀ i, i < w.heap.size → tMine (o i) → M i) {C' : List (List Int)} (hN : Nx tMine noEx w b o S' w') (hA : At C' S') (hcw : ∀ c ∈ C', ∀ x ∈ c, Wi S'.nv x) (hd : S'.st.length ≤ S'.tr.length ∧ ∀ (i s : Nat), S'.st[i]? = some s → i ≤ s) :
    ∃ M', After M w b C' S' M' w' := by
  obtain ⟨o', h', hR', ha, hk⟩ := hN
  refine ⟨fun i => i < w'.heap.size ∧ tMine (o' i) , ⟨⟨o', h', hR', fun i hi ht => ⟨hi, ht⟩⟩, hA, hcw, fun i hi => hi.1, hd⟩, fun i hi => ?_, hk.mono fun i hi ht => ho i hi ht⟩
  by_cases hlt : i < w.heap.size
  · refine Or.inl (ho i hlt ?_)
    have h2 := hi.2
    rw [ha i hlt] at h2
    exact h2
  · exact Or.inr (by omega)
theorem wa_run (h : Wa M w b C S) : Calls Try.prog 10 #[Pt b] w fun e w' => ∃ (v : Bool) (M' : Nat → Prop) (S' : WS), e = .returned (.bool v) ∧ After M w b C S' M' w' ∧ S'.nv = S.nv ∧ S'.st = S.st ∧ S'.rest = v ∧ S'.clash = (!v) ∧
    (v = true ↔ ¬ Clash C S.tr) ∧ (v = true → S.tr <+: S'.tr ∧ ∀ x, x ∈ S'.tr ↔ Der C S.tr x) ∧ (v = false → S'.tr = S.tr) := by
  obtain ⟨o, hs, hR, ho⟩ := h.rp
  refine (run10 hR h.at_).mono fun e w' ⟨v, he, S', hN, hA, hnv, hst, hr, hc, ht, hf⟩ => ?_
  have h0 : ∀ c ∈ C, ∀ x ∈ c, x ≠ 0 := fun c hc x hx => (h.cw c hc x hx).1
  obtain ⟨p1, p2⟩ := run_plain hA hr h0 ht hf
  have hle : S.tr.length ≤ S'.tr.length := by
    cases v with
    | true => exact (ht rfl).1.length_le
    | false => rw [(hf rfl).1]; exact Nat.le_refl _
  obtain ⟨M', hA'⟩ := after_of hR ho hN hA (fun c hc x hx => by rw [hnv]; exact h.cw c hc x hx) ⟨by rw [hst]; exact Nat.le_trans h.dp.1 hle, fun i s hi => h.dp.2 i s (by rw [← hst]; exact hi)⟩
  exact ⟨v, M', S', he, hA', hnv, hst, hr, hc, p1, fun hv => ⟨(ht hv).1, p2 hv⟩, fun hv => (hf hv).1⟩
theorem wa_add (h : Wa M w b C S) {p : Option Addr} {n c : Nat} {cs : List Int} (hRd : RdL w p n cs) (hn : n ≤ 17592186044416) (hC : C.length + 1 ≤ cap) :
    Calls Try.prog 12 #[Pt b, .slice p n c] w fun e w' => (e = .returned (I 1) ∧ (¬ ∀ x ∈ cs, Wi S.nv x) ∧ Keep None w w') ∨
      (e = .returned (I 0) ∧ (∀ x ∈ cs, Wi S.nv x) ∧ ∃ (M' : Nat → Prop) (S' : WS), After M w b (C ++ [cs]) S' M' w' ∧ S'.nv = S.nv ∧ S'.tr = S.tr ∧ S'.st = S.st ∧ S'.rest = false ∧ S'.clash = S.clash) := by
  obtain ⟨o, hs, hR, ho⟩ := h.rp
  refine (add12 hR h.at_ hRd hn hC).mono fun e w' hh => ?_
  rcases hh with hh | ⟨he, hw, S', hN, hA, e1, e2, e3, e4, e5⟩
  · exact Or.inl hh
  · refine Or.inr ⟨he, hw, ?_⟩
    obtain ⟨M', hA'⟩ := after_of hR ho hN hA (fun c hc x hx => by
      rw [e1]
      rcases List.mem_append.1 hc with hc | hc
      · exact h.cw c hc x hx
      · rw [List.mem_singleton.1 hc] at hx; exact hw x hx) ⟨by rw [e2, e3]; exact h.dp.1, fun i s hi => h.dp.2 i s (by rw [← e3]; exact hi)⟩
    exact ⟨M', S', hA', e1, e2, e3, e4, e5⟩
/-- Assume's answer -/
def Asm (M : Nat → Prop) (w : World) (b : Nat) (C : List (List Int)) (S : WS) (l v : Int) (w' : World) : Prop :=
  (v = 1 ∧ ¬ Wi S.nv l ∧ Keep None w w') ∨ (v = 3 ∧ Wi S.nv l ∧ S.rest = false ∧ Keep None w w') ∨ (v = 50 ∧ Wi S.nv l ∧ S.rest = true ∧ (l ∈ S.tr ∨ -l ∈ S.tr) ∧ Keep None w w') ∨
  (v = 0 ∧ Wi S.nv l ∧ S.rest = true ∧ (l ∉ S.tr ∧ -l ∉ S.tr) ∧ ∃ M', After M w b C { S with st := S.st ++ [S.tr.length], tr := S.tr ++ [l], rest := false } M' w')
theorem wa_assume (h : Wa M w b C S) (l : Int) : Calls Try.prog 8 #[Pt b, I l] w fun e w' => ∃ v : Int, e = .returned (I v) ∧ Asm M w b C S l v w' := by
  obtain ⟨o, hs, hR, ho⟩ := h.rp
  have htl := h.at_.iv.wf.trl
  refine (assume8 hR h.at_ (by have := h.dp.1; omega) l).mono fun e w' ⟨v, he, hh⟩ => ?_
  rcases hh with ⟨rfl, hh⟩ | ⟨rfl, hh⟩ | ⟨rfl, h1, h2, h3, h4⟩ | ⟨rfl, h1, h2, h3, h4⟩
  · exact ⟨1, he, Or.inl ⟨rfl, hh⟩⟩
  · exact ⟨3, he, Or.inr (Or.inl ⟨rfl, hh⟩)⟩
  · refine ⟨50, he, Or.inr (Or.inr (Or.inl ⟨rfl, h1, h2, ?_, h4⟩))⟩
    apply Classical.byContradiction
    intro hn
    exact h3 (lv_nil.2 ⟨fun a => hn (Or.inl a), fun a => hn (Or.inr a)⟩)
  · refine ⟨0, he, Or.inr (Or.inr (Or.inr ⟨rfl, h1, h2, lv_nil.1 h3, ?_⟩))⟩
    refine after_of hR ho h4 (h.at_.assume h2 h1 h3) h.cw ⟨?_, fun i s hi => ?_⟩
    · show (S.st ++ [S.tr.length]).length ≤ (S.tr ++ [l]).length
      have := h.dp.1
      simp only [List.length_append, List.length_singleton]; omega
    · have hi : (S.st ++ [S.tr.length])[i]? = some s := hi
      rcases Nat.lt_trichotomy i S.st.length with hl | hl | hl
      · rw [List.getElem?_append_left hl] at hi; exact h.dp.2 i s hi
      · rw [hl, List.getElem?_append_right (Nat.le_refl _), Nat.sub_self] at hi
        injection hi with hi
        have := h.dp.1
        omega
      · rw [List.getElem?_eq_none (by simp; omega)] at hi; cases hi
theorem wa_undo (h : Wa M w b C S) : Calls Try.prog 9 #[Pt b] w fun e w' => (e = .returned (I 3) ∧ S.st = [] ∧ Keep None w w') ∨
      (e = .returned (I 0) ∧ ∃ st' s M', S.st = st' ++ [s] ∧ After M w b C { S with tr := S.tr.take s, hd := s, st := st', rest := false } M' w') := by
  obtain ⟨o, hs, hR, ho⟩ := h.rp
  have htl := h.at_.iv.wf.trl
  refine (undo9 hR h.at_ (by have := h.dp.1; omega)).mono fun e w' hh => ?_
  rcases hh with hh | ⟨he, st', s, hst, hN⟩
  · exact Or.inl hh
  · refine Or.inr ⟨he, st', s, ?_⟩
    have hs1 := h.at_.iv.st0 s (by rw [hst]; simp)
    have hs2 := h.at_.iv.hdl
    obtain ⟨M', hA'⟩ := after_of hR ho hN (h.at_.undo hst) h.cw ⟨by
      show st'.length ≤ (S.tr.take s).length
      have := h.dp.2 st'.length s (by rw [hst, List.getElem?_append_right (Nat.le_refl _), Nat.sub_self]; rfl)
      rw [List.length_take]; omega, fun i s' hi => h.dp.2 i s' (by
        have hl := (List.getElem?_eq_some_iff.1 hi).1
        rw [hst, List.getElem?_append_left hl]; exact hi)⟩
    exact ⟨M', hst, hA'⟩
theorem wa_lits (h : Wa M w b C S) : Calls Try.prog 21 #[Pt b] w fun e w' => ∃ v L, e = .returned v ∧ Td (· ∈ S.tr) L ∧ New w L v w' := by
  obtain ⟨o, hs, hR, ho⟩ := h.rp
  exact lits21 hR (by have := h.at_.iv.wf.trl; omega)
theorem wa_clash (h : Wa M w b C S) : Calls Try.prog 22 #[Pt b] w fun e w' => e = .returned (.bool S.clash) ∧ Keep None w w' := by
  obtain ⟨o, hs, hR, ho⟩ := h.rp
  exact clashes22 hR
theorem wa_depth (h : Wa M w b C S) : Calls Try.prog 14 #[Pt b] w fun e w' => e = .returned (I (S.st.length : Nat)) ∧ Keep None w w' := by
  obtain ⟨o, hs, hR, ho⟩ := h.rp
  exact depth14 hR
/-- New's answer -/
def Nwa (w : World) (nv : Int) (css : List (List Int)) (q : Option Addr) (v : Int) (w' : World) : Prop :=
  (q = none ∧ v = 1 ∧ ¬ FormedF nv css ∧ Keep None w w') ∨
  ∃ b M S, q = some ⟨b, 0, none⟩ ∧ v = 0 ∧ FormedF nv css ∧ Wa M w' b css S ∧ (∀ i, M i → w.heap.size ≤ i) ∧ Keep None w w' ∧ S.nv = nv.toNat ∧ S.tr = [] ∧ S.st = [] ∧ S.rest = false ∧ S.clash = false
theorem wa_new {B : Nat → Prop} {nv : Int} {p : Option Addr} {n c : Nat} {css : List (List Int)} (hC : RdC B w p n css) (hB : ∀ i, B i → i < w.heap.size) (hn : n ≤ cap) (hl : ∀ es ∈ css, es.length ≤ 17592186044416) :
    Calls Try.prog 7 #[.agg #[I nv, .slice p n c]] w fun e w' => ∃ q v, e = .returned (.tuple #[.pointer q, I v]) ∧ Nwa w nv css q v w' := by
  refine (new7 hC hB hn hl).mono fun e w' ⟨v, he, hh⟩ => ?_
  rcases hh with ⟨rfl, h1, h2⟩ | ⟨b, o, h, S, rfl, hf, hb, hk, hR, hA, e1, e2, e3, e4, e5, ho⟩
  · exact ⟨none, 1, he, Or.inl ⟨rfl, rfl, h1, h2⟩⟩
  · refine ⟨_, 0, he, Or.inr ⟨b, fun i => i < w'.heap.size ∧ tMine (o i), S, rfl, rfl, hf, ⟨⟨o, h, hR, fun i hi ht => ⟨hi, ht⟩⟩, hA, fun c hc x hx => by rw [e1]; exact hf.2.2 c hc x hx, fun i hi => hi.1, by rw [e3]; exact ⟨Nat.zero_le _, fun i s hi => by simp at hi⟩⟩, fun i hi => ?_, hk, e1, e2, e3, e4, e5⟩⟩
    apply Classical.byContradiction
    intro hlt
    exact hi.2 (ho i (by omega))
end
end Go.Proofs.Ytjpblaenebodlaa.Wt

/- WatchNumbers. -/
set_option linter.unusedVariables false
set_option linter.unusedSimpArgs false
set_option linter.unusedSectionVars false
set_option maxRecDepth 100000
namespace Go.Proofs.Ytjpblaenebodlaa.Wt
open Go Go.Proofs.Ytjpblaenebodlaa.Vc Go.Proofs.Ytjpblaenebodlaa.T
open Go.Proofs.Ytjpblaenebodlaa.Apart (RdL own_rdl wrap_nat getE own_len copy same take_snoc Sl sv New)

theorem rdc_nil (B : Nat → Prop) (w : World) (p : Option Addr) : RdC B w p 0 [] := ⟨rfl, fun i es h => by simp at h⟩
theorem asm_false {M : Nat → Prop} {w w' : World} {b : Nat} {C : List (List Int)} {S : WS} {l v : Int} (h : Asm M w b C S l v w') (hr : S.rest = false) (hw : Wi S.nv l) : v = 3 ∧ Keep None w w' := by
  rcases h with ⟨_, h, _⟩ | ⟨e, _, _, k⟩ | ⟨_, _, h, _⟩ | ⟨_, _, h, _⟩
  · exact absurd hw h
  · exact ⟨e, k⟩
  · rw [hr] at h; cases h
  · rw [hr] at h; cases h
theorem law3 (w : World) : Calls Try.prog 3 #[] w fun e w' => e = .returned (.bool true) ∧ RowKit.Below w.heap.size w w' := by
  refine (V3_calls w (fun v w' => v = .bool true ∧ Keep None w w') ?_).mono fun e w' ⟨v, he, hv, hk⟩ => ⟨by rw [he, hv], hk.below0⟩
  unfold V3
  refine cl_of ok7 (wa_new (rdc_nil (fun _ => False) w none) (fun i h => h.elim) (Nat.zero_le _) (fun es h => by cases h)) fun e w1 ⟨q1, v1, he, h1⟩ => ⟨q1, v1, he, ?_⟩
  rcases h1 with ⟨rfl, rfl, _, k1⟩ | ⟨_, _, _, _, _, hf, _⟩
  rotate_left
  · have := hf.1; omega
  refine alc_at fun b7 w2 hb7 hB7 k2 => ?_
  refine alc_at fun b8 w3 hb8 hB8 k3 => ?_
  have hC : RdC (fun i => i < w3.heap.size) w3 (some ⟨b8, 0, none⟩) 1 [[1]] := ⟨rfl, fun i es hi => by
    cases i with
    | succ i => simp at hi
    | zero =>
      simp only [List.getElem?_cons_zero, Option.some.injEq] at hi
      subst hi
      refine ⟨⟨b8, 0, none⟩, some ⟨b7, 0, none⟩, 1, 1, rfl, by rw [add_mk]; exact hB8.cell 0, ?_, hB8.lt, fun j ⟨a, ha, hj⟩ _ => ?_⟩
      · exact own_rdl (c := 1) (Or.inr ⟨b7, [I 1], rfl, hB7.keep0 k3, Nat.le_refl _, by decide, rfl, rfl⟩)
      · injection ha with ha; subst ha; subst hj
        exact Nat.lt_of_lt_of_le hB7.lt k3.size⟩
  refine cl_of ok7 (wa_new hC (fun i h => h) (by decide) (fun es h => by rw [List.mem_singleton.1 h]; decide)) fun e w4 ⟨q2, v2, he, h2⟩ => ⟨q2, v2, he, ?_⟩
  rcases h2 with ⟨_, _, hn, _⟩ | ⟨b, M, S, rfl, rfl, hf, hA, hM, k4, n1, n2, n3, n4, n5⟩
  · refine absurd ⟨by decide, by decide, fun c hc x hx => ?_⟩ hn
    rw [List.mem_singleton.1 hc] at hx
    rw [List.mem_singleton.1 hx]
    exact ⟨by decide, by decide, by decide⟩
  have n1' : S.nv = 2 := n1
  have kk : Keep None w w4 := ((k1.trans k2 fun _ _ h => h).trans k3 fun _ _ h => h).trans k4 fun _ _ h => h
  have s3 : w.heap.size ≤ w3.heap.size := by have := k1.size; have := k2.size; have := k3.size; omega
  refine pif_f (by rfl) ?_
  refine cl_of ok8 (wa_assume hA 2) fun e w5 ⟨v3, he, h3⟩ => ⟨v3, he, ?_⟩
  obtain ⟨rfl, k5⟩ := asm_false h3 n4 ⟨by decide, by omega, by omega⟩
  refine cl_of ok9 (wa_undo (hA.keep0 k5)) fun e w6 h6 => ?_
  rcases h6 with ⟨he, _, k6⟩ | ⟨_, st', s, _, hst, _⟩
  rotate_left
  · rw [n3] at hst; simp at hst
  refine ⟨3, he, ?_⟩
  have hA6 := (hA.keep0 k5).keep0 k6
  have hncl : ¬ Clash [[1]] S.tr := by
    rw [n2]
    refine clash_true (T := fun x => x = 1) (fun x hx h => by omega) (fun c hc => ⟨1, by rw [List.mem_singleton.1 hc]; simp, rfl⟩) (fun x hx => by cases hx)
  refine cl_of ok10 (wa_run hA6) fun e w7 ⟨v, M', S', he, hAf, e1, e2, e3, e4, e5, e6, e7⟩ => ⟨v, he, ?_⟩
  obtain rfl : v = true := e5.2 hncl
  have h1t : (1 : Int) ∈ S'.tr := ((e6 rfl).2 1).2 (Der.unit (c := [1]) (by simp) (by simp) fun x hx hne => absurd (List.mem_singleton.1 hx) hne)
  have g1 : ∀ i, M' i → w.heap.size ≤ i := fun i hi => by
    rcases hAf.gr i hi with h | h
    · exact Nat.le_trans s3 (hM i h)
    · have := k4.size; have := k5.size; have := k6.size; omega
  have kw : Keep None w w7 := ((kk.trans k5 fun _ _ h => h).trans k6 fun _ _ h => h).trans hAf.kp fun i hi h => by
    have := Nat.le_trans s3 (hM i h); omega
  refine cl_of ok8 (wa_assume hAf.wa (-1)) fun e w8 ⟨v4, he, h4⟩ => ⟨v4, he, ?_⟩
  have hwi : Wi S'.nv (-1) := ⟨by decide, by omega, by omega⟩
  rcases h4 with ⟨_, h, _⟩ | ⟨_, _, h, _⟩ | ⟨rfl, _, _, _, k8⟩ | ⟨_, _, _, ⟨_, h⟩, _⟩
  · exact absurd hwi h
  · rw [e3] at h; cases h
  rotate_left
  · exact absurd h1t h
  refine cl_of ok8 (wa_assume (hAf.wa.keep0 k8) 3) fun e w9 ⟨v5, he, h5⟩ => ⟨v5, he, ?_⟩
  have hw3 : ¬ Wi S'.nv 3 := fun h => by have := h.2.2; omega
  rcases h5 with ⟨rfl, _, k9⟩ | ⟨_, h, _⟩ | ⟨_, h, _⟩ | ⟨_, h, _⟩
  · exact ⟨rfl, (kw.trans k8 fun _ _ h => h).trans k9 fun _ _ h => h⟩
  · exact absurd h hw3
  · exact absurd h hw3
  · exact absurd h hw3
end Go.Proofs.Ytjpblaenebodlaa.Wt

/- Lists of lists of ints that grow, in memory of a thing's own. -/
set_option linter.unusedVariables false
set_option linter.unusedSimpArgs false
set_option linter.unusedSectionVars false
set_option maxRecDepth 100000
namespace Go.Proofs.Ytjpblaenebodlaa.Apart
open Go Go.Proofs.Ytjpblaenebodlaa.Vc Go.Proofs.Ytjpblaenebodlaa.T

/-- a list of lists, in blocks of M, the lists' own blocks apart from the outer one -/
structure LL (M : Nat → Prop) (w : World) (p : Option Addr) (n c : Nat) (hs : List Sl) (css : List (List Int)) : Prop where
  own : Own w 29 1 p n c (hs.map sv)
  out : ∀ i, ob p i → M i
  len : css.length = n
  inn : ∀ (i : Nat) (x : Sl) (es : List Int), hs[i]? = some x → css[i]? = some es → Own w 3 1 x.1 x.2.1 x.2.2 (es.map J) ∧ ∀ j, ob x.1 j → M j ∧ ¬ ob p j
section
variable {M M' : Nat → Prop} {w w' : World} {p : Option Addr} {n c : Nat} {hs : List Sl} {css : List (List Int)}
theorem LL.hl (h : LL M w p n c hs css) : hs.length = n := by have := h.own.len; simpa using this
theorem LL.nil (M : Nat → Prop) (w : World) : LL M w none 0 0 [] [] := ⟨Own.nil _ _ _, fun i ⟨a, h, _⟩ => (by cases h), rfl, fun i x es h => by simp at h⟩
theorem LL.keep {U : Nat → Prop} (h : LL M w p n c hs css) (hk : Keep U w w') (hu : ∀ i, M i → ¬ U i) : LL M w' p n c hs css :=
  ⟨h.own.keep hk fun i hi => hu i (h.out i hi), h.out, h.len, fun i x es h1 h2 => by
    obtain ⟨h3, h4⟩ := h.inn i x es h1 h2
    exact ⟨h3.keep hk fun j hj => hu j (h4 j hj).1, h4⟩⟩
theorem LL.keep0 (h : LL M w p n c hs css) (hk : Keep None w w') : LL M w' p n c hs css := h.keep hk fun _ _ h => h
theorem LL.mono (h : LL M w p n c hs css) (hm : ∀ i, i < w.heap.size → M i → M' i) : LL M' w p n c hs css :=
  ⟨h.own, fun i hi => hm i (h.own.lt i hi) (h.out i hi), h.len, fun i x es h1 h2 => by
    obtain ⟨h3, h4⟩ := h.inn i x es h1 h2
    exact ⟨h3, fun j hj => ⟨hm j (h3.lt j hj) (h4 j hj).1, (h4 j hj).2⟩⟩⟩
/-- the i-th list -/
theorem LL.ix (h : LL M w p n c hs css) {i : Nat} (hi : i < n) {K : Addr → Prop} (hK : ∀ (a : Addr) (x : Sl) (es : List Int), hs[i]? = some x → css[i]? = some es → w.cell? a = some (sv x) → Own w 3 1 x.1 x.2.1 x.2.2 (es.map J) → (∀ j, ob x.1 j → M j ∧ ¬ ob p j) → K a) : ixA p n (i : Int) 1 K := by
  have hl := h.hl
  obtain ⟨x, hx⟩ := getE (show i < hs.length by omega)
  obtain ⟨es, hes⟩ := getE (show i < css.length by have := h.len; omega)
  refine h.own.ix (by omega) (by omega) fun b hb => ?_
  rw [Int.toNat_natCast, Nat.mul_one]
  obtain ⟨h3, h4⟩ := h.inn i x es hx hes
  refine hK _ x es hx hes ?_ h3 h4
  have hO := h.own
  rw [hb] at hO
  rw [hO.cell _ (by omega), List.getElem?_map, hx]; rfl
/-- one list more, put to its end -/
theorem LL.app (h : LL M w p n c hs css) {x : Sl} {es : List Int} (hx : Own w 3 1 x.1 x.2.1 x.2.2 (es.map J)) (hM : ∀ j, ob x.1 j → M' j ∧ ¬ M j) (hMM : ∀ i, M i → M' i) (hn : n + 1 ≤ 8796093022208)
    {b : Nat} (hB : Blk w b [sv x] 29) {K : Option Addr → Nat → Nat → World → Prop}
    (hK : ∀ p' c' w', LL (fun i => i < w'.heap.size ∧ (M' i ∨ w.heap.size ≤ i)) w' p' (n + 1) c' (hs ++ [x]) (css ++ [es]) → Keep M w w' → K p' (n + 1) c' w') :
    ∃ (p' : Option Addr) (n' c' : Nat), ∃ w' : World, (Builtin.append_ #[26, 26] 26 #[.slice p n c, .slice (some ⟨b, 0, none⟩) 1 1]).run Try.prog w = .ok (.slice p' n' c') w' ∧ K p' n' c' w' := by
  have hl := h.hl
  have hc := h.len
  refine app_of3 (e := 29) (sz := 1) (z := .slice none 0 0) (B := 24) Try.underlying26 (by kernel_rfl) rfl (by omega) h.own hB.news1 (fun u hu => ?_) (by simp only [maxLen]; omega) (by omega) fun p' c' w' hO hd => ?_
  · rw [List.mem_singleton.1 hu]; rfl
  have kk : Keep M w w' := by
    rcases hd with ⟨_, _, _, k'⟩ | ⟨_, k'⟩
    · exact k'.mono fun i _ hi => h.out i hi
    · exact k'.none
  have hsz := kk.size
  have fresh : ∀ i, ob p' i → i < w'.heap.size := hO.lt
  refine hK p' c' w' ⟨by rw [List.map_append]; exact hO, fun i hi => ⟨fresh i hi, ?_⟩, by rw [List.length_append, hc]; rfl, fun i y ys h1 h2 => ?_⟩ kk
  · rcases hd with ⟨e, _, _, _⟩ | ⟨e, _⟩
    · rw [e] at hi; exact Or.inl (hMM i (h.out i hi))
    · exact Or.inr (e i hi)
  have outp : ∀ j, j < w.heap.size → ¬ ob p j → ¬ ob p' j := fun j hj hn hi => by
    rcases hd with ⟨e, _, _, _⟩ | ⟨e, _⟩
    · rw [e] at hi; exact hn hi
    · have := e j hi; omega
  rcases Nat.lt_trichotomy i n with hi | hi | hi
  · rw [List.getElem?_append_left (by omega)] at h1 h2
    obtain ⟨h3, h4⟩ := h.inn i y ys h1 h2
    refine ⟨?_, fun j hj => ⟨⟨by have := h3.lt j hj; omega, Or.inl (hMM j (h4 j hj).1)⟩, outp j (h3.lt j hj) (h4 j hj).2⟩⟩
    rcases hd with ⟨_, _, _, k'⟩ | ⟨_, k'⟩
    · exact h3.keep k' fun j hj hh => (h4 j hj).2 hh
    · exact h3.keep0 k'
  · rw [List.getElem?_append_right (by omega), show i - hs.length = 0 by omega] at h1
    rw [List.getElem?_append_right (by omega), show i - css.length = 0 by omega] at h2
    simp only [List.getElem?_cons_zero, Option.some.injEq] at h1 h2
    subst h1; subst h2
    have np : ∀ j, ob x.1 j → ¬ ob p j := fun j hj hp => (hM j hj).2 (h.out j hp)
    refine ⟨?_, fun j hj => ⟨⟨by have := hx.lt j hj; omega, Or.inl (hM j hj).1⟩, outp j (hx.lt j hj) (np j hj)⟩⟩
    rcases hd with ⟨_, _, _, k'⟩ | ⟨_, k'⟩
    · exact hx.keep k' fun j hj hh => np j hj hh
    · exact hx.keep0 k'
  · rw [List.getElem?_eq_none (by simp; omega)] at h1; cases h1
/-- another list in one's place -/
theorem LL.set (h : LL M w p n c hs css) {i : Nat} (hi : i < n) {x : Sl} {es : List Int} (hx : Own w 3 1 x.1 x.2.1 x.2.2 (es.map J)) (hM : ∀ j, ob x.1 j → M' j ∧ ¬ M j) (hMM : ∀ i, M i → M' i)
    {K : World → Prop} (hK : ∀ w', LL M' w' p n c (hs.set i x) (css.set i es) → Keep M w w' → w'.heap.size = w.heap.size → K w') : ixA p n (i : Int) 1 fun a => st w (a.add 0) (sv x) K := by
  have hl := h.hl
  have hc := h.len
  refine h.own.ix (by omega) (by omega) fun b hb => ?_
  rw [Int.toNat_natCast, Nat.mul_one, add_mk, Nat.add_zero]
  have hO := h.own
  rw [hb] at hO
  have kb : ∀ {w' : World}, Keep (One b) w w' → Keep M w w' := fun k => k.mono fun j _ hj => by
    have hj' : j = b := hj
    rw [hj']; exact h.out b ⟨_, hb, rfl⟩
  have opb : ∀ j, ob p j ↔ j = b := fun j => ⟨fun ⟨a, ha, hj⟩ => by rw [hb] at ha; injection ha with ha; subst ha; exact hj.symm, fun e => ⟨_, hb, e.symm⟩⟩
  refine hO.st (by omega) rfl fun w' hO' hk hs' => hK w' ⟨?_, fun j hj => hMM j (h.out j hj), by rw [List.length_set]; exact hc, fun j y ys h1 h2 => ?_⟩ (kb hk) hs'
  · rw [hb, List.map_set]; exact hO'
  · rw [List.getElem?_set] at h1 h2
    by_cases hij : i = j
    · subst hij
      rw [if_pos rfl] at h1 h2
      rw [if_pos (by omega)] at h1 h2
      injection h1 with h1; injection h2 with h2
      subst h1; subst h2
      exact ⟨hx.keep hk fun j hj hh => (hM j hj).2 (h.out j ((opb j).2 hh)), fun j hj => ⟨(hM j hj).1, fun hp => (hM j hj).2 (h.out j hp)⟩⟩
    · rw [if_neg hij] at h1 h2
      obtain ⟨h3, h4⟩ := h.inn j y ys h1 h2
      exact ⟨h3.keep hk fun j hj hh => (h4 j hj).2 ((opb j).2 hh), fun j hj => ⟨hMM j (h4 j hj).1, (h4 j hj).2⟩⟩
/-- cut to its beginning -/
theorem LL.cut (h : LL M w p n c hs css) {m : Nat} (hm : m ≤ n) : LL M w p m c (hs.take m) (css.take m) :=
  ⟨by have := h.own.cut hm; rw [Nat.mul_one, ← List.map_take] at this; exact this, h.out, by rw [List.length_take, h.len]; omega, fun i x es h1 h2 => by
    rw [List.getElem?_take] at h1 h2
    split at h1
    · rename_i hlt
      rw [if_pos hlt] at h2
      exact h.inn i x es h1 h2
    · cases h1⟩
end
end Go.Proofs.Ytjpblaenebodlaa.Apart

/- Formulas copied. -/
set_option linter.unusedVariables false
set_option linter.unusedSimpArgs false
set_option linter.unusedSectionVars false
set_option maxRecDepth 100000
namespace Go.Proofs.Ytjpblaenebodlaa.Wt
open Go Go.Proofs.Ytjpblaenebodlaa.Vc Go.Proofs.Ytjpblaenebodlaa.T
open Go.Proofs.Ytjpblaenebodlaa.Apart (RdL own_rdl wrap_nat getE own_len copy same take_snoc Sl sv New LL)

theorem LLrdc {M : Nat → Prop} {w : World} {p : Option Addr} {n c : Nat} {hs : List Sl} {css : List (List Int)} (h : LL M w p n c hs css) : RdC M w p n css := by
  refine ⟨h.len, fun i es hi => ?_⟩
  have hl := h.hl
  have hc := h.len
  have hlt := (List.getElem?_eq_some_iff.1 hi).1
  obtain ⟨x, hx⟩ := getE (show i < hs.length by omega)
  obtain ⟨h3, h4⟩ := h.inn i x es hx hi
  have hO := h.own
  rcases hO with ⟨rfl, rfl, _, _⟩ | ⟨b, cs, rfl, hB, _⟩
  · omega
  · refine ⟨⟨b, 0, none⟩, x.1, x.2.1, x.2.2, rfl, ?_, own_rdl h3, h.out b ⟨_, rfl, rfl⟩, fun j hj _ => (h4 j hj).1⟩
    rw [add_mk, Nat.zero_add, h.own.cell _ (by omega), List.getElem?_map, hx]; rfl
/-- new blocks -/
abbrev Fresh (w : World) : Nat → Prop := fun i => w.heap.size ≤ i
theorem copies31 {B : Nat → Prop} {w : World} {p : Option Addr} {n c : Nat} {css : List (List Int)} (hC : RdC B w p n css) (hn : n ≤ 8796093022208) (hl : ∀ es ∈ css, es.length ≤ 17592186044416) :
    Calls Try.prog 31 #[.slice p n c] w fun e w' => ∃ p' c' hs, e = .returned (.slice p' n c') ∧ LL (Fresh w) w' p' n c' hs css ∧ Keep None w w' := by
  refine (V31_calls p n c w (fun v w' => ∃ p' c' hs, v = .slice p' n c' ∧ LL (Fresh w) w' p' n c' hs css ∧ Keep None w w') ?_).mono fun e w' ⟨v, he, p', c', hs, hv, hk⟩ => ⟨p', c', hs, by rw [he, hv], hk⟩
  unfold V31
  have hll := hC.len
  refine lp_of (fun s W => ∃ (i : Nat) (hs : List Sl), s.2.1 = i ∧ i ≤ n ∧ s.1.2.1 = i ∧ LL (Fresh w) W s.1.1 s.1.2.1 s.1.2.2 hs (css.take i) ∧ Keep None w W) (fun s _ => (n - s.2.1).toNat) ⟨0, [], rfl, Nat.zero_le _, rfl, LL.nil _ _, Keep.refl _ _⟩ ?_
  rintro ⟨⟨q, m, d⟩, i', ⟨⟩⟩ w1 ⟨i, hs, rfl, hi, hm, hL, k1⟩
  simp only [] at hm hL ⊢
  subst hm
  refine pif_of (fun hlt => ?_) fun hge => ?_
  · have hlt : m < n := by simpa using hlt
    obtain ⟨es, hes⟩ := getE (show m < css.length by omega)
    rw [wrap_nat m (by omega)]
    refine (hC.keep0 k1).ix hes fun a q2 mm c2 ha hRd => ldC_of ha ?_
    refine cl_of ok13 (copy hRd (by rw [← hRd.len]; exact hl es (List.mem_of_getElem? hes))) fun e w2 ⟨v2, he, p2, c2', hv, hO2, hf2, k2⟩ => ⟨p2, es.length, c2', by rw [he, hv], ?_⟩
    refine alc_at fun b w3 hb hB k3 => ?_
    have hL3 : LL (fun i => w.heap.size ≤ i ∧ i < w1.heap.size) w3 q m d hs (css.take m) := ((hL.mono (M' := fun i => w.heap.size ≤ i ∧ i < w1.heap.size) fun i h1 h2 => ⟨h2, h1⟩).keep0 k2).keep0 k3
    refine hL3.app (x := (p2, es.length, c2')) (M' := fun i => w.heap.size ≤ i) (hO2.keep0 k3) (fun j hj => ⟨by have := hf2 j hj; have := k1.size; show w.heap.size ≤ j; omega, fun h => by have := hf2 j hj; omega⟩) (fun i h => h.1) (by omega) hB fun p' c' w' hL' k' => ?_
    refine ⟨⟨m + 1, hs ++ [(p2, es.length, c2')], rfl, hlt, rfl, ?_, ?_⟩, by omega⟩
    · rw [List.take_add_one, hes]
      refine hL'.mono fun i _ h => ?_
      rcases h.2 with h | h
      · exact h
      · have := k1.size; have := k2.size; have := k3.size; show w.heap.size ≤ i; omega
    · exact (((k1.trans k2 fun _ _ h => h).trans k3 fun _ _ h => h).trans k' fun i hi h => by have := h.1; omega)
  · have hge : m = n := by simp at hge; omega
    subst hge
    rw [← hll, List.take_length] at hL
    rw [hll] at hL
    exact ⟨q, d, hs, rfl, hL, k1⟩
theorem copyF11 {B : Nat → Prop} {w : World} {nv : Int} {p : Option Addr} {n c : Nat} {css : List (List Int)} (hC : RdC B w p n css) (hn : n ≤ 8796093022208) (hl : ∀ es ∈ css, es.length ≤ 17592186044416) :
    Calls Try.prog 11 #[.agg #[I nv, .slice p n c]] w fun e w' => ∃ p' c' hs, e = .returned (.agg #[I nv, .slice p' n c']) ∧ LL (Fresh w) w' p' n c' hs css ∧ Keep None w w' := by
  refine (V11_calls nv p n c w (fun v w' => ∃ p' c' hs, v = .agg #[I nv, .slice p' n c'] ∧ LL (Fresh w) w' p' n c' hs css ∧ Keep None w w') ?_).mono fun e w' ⟨v, he, p', c', hs, hv, hk⟩ => ⟨p', c', hs, by rw [he, hv], hk⟩
  unfold V11
  refine alc_at fun b2 w1 hb2 hB2 k1 => ?_
  refine alc_at fun b3 w2 hb3 hB3 k2 => ?_
  have k12 := k1.then0 k2
  refine ldC_of (x := p) (n := n) (c := c) (by rw [add_mk]; exact (hB2.keep0 k2).cell 1) ?_
  refine cl_of ok31 (copies31 (hC.keep0 k12) hn hl) fun e w3 ⟨p', c', hs, he, hL, k3⟩ => ⟨p', n, c', he, ?_⟩
  have s1 := k1.size; have s2 := k2.size; have s3 := k3.size
  have l2 := hB2.lt; have l3 := hB3.lt
  refine ldI_of (x := nv) (by rw [add_mk]; exact ((hB2.keep0 k2).keep0 k3).cell 0) ?_
  rw [add_mk, add_mk, Nat.zero_add]
  refine st_of (hB3.keep0 k3) (by simp) rfl fun w4 hB4 k4 _ => ?_
  refine st_of hB4 (by simp) rfl fun w5 hB5 k5 _ => ?_
  have kk : Keep None w w5 := ((k12.trans k3 fun _ _ h => h).trans k4 fun i hi h => by have h' : i = b3 := h; omega).trans k5 fun i hi h => by have h' : i = b3 := h; omega
  refine ldI_of (x := nv) (hB5.cell 0) ?_
  refine ldC_of (x := p') (n := n) (c := c') (hB5.cell 1) ?_
  refine ⟨p', c', hs, rfl, ?_, kk⟩
  have hL' : LL (Fresh w2) w5 p' n c' hs css := (hL.keep k4 fun i hi h => by have h' : i = b3 := h; have : w2.heap.size ≤ i := hi; omega).keep k5 fun i hi h => by have h' : i = b3 := h; have : w2.heap.size ≤ i := hi; omega
  exact hL'.mono fun i _ hi => by have : w2.heap.size ≤ i := hi; show w.heap.size ≤ i; omega
end Go.Proofs.Ytjpblaenebodlaa.Wt

/- How formulas, lists and calls come in. -/
set_option linter.unusedVariables false
set_option linter.unusedSimpArgs false
set_option linter.unusedSectionVars false
set_option maxRecDepth 100000
namespace Go.Proofs.Ytjpblaenebodlaa.Wt
open Go Go.Proofs.Ytjpblaenebodlaa.Vc Go.Proofs.Ytjpblaenebodlaa.T Go.ChangeShapes Go.WideShapes Go.ChangeAt Go.RowKit
open Go.Proofs.Ytjpblaenebodlaa.Apart (RdL)

theorem maxLen_eq : maxLen = 9223372036854775807 := by decide +kernel
theorem reach_eq : reachBytes = 140737488351232 := by decide +kernel
theorem c3 : Try.prog.cellsOf 3 = 1 := by kernel_rfl
theorem c4 : Try.prog.cellsOf 4 = 1 := by kernel_rfl
theorem c29 : Try.prog.cellsOf 29 = 1 := by kernel_rfl
theorem c26 : Try.prog.cellsOf 26 = 1 := by kernel_rfl
theorem c28 : Try.prog.cellsOf 28 = 2 := by kernel_rfl
theorem c51 : Try.prog.cellsOf 51 = 4 := by kernel_rfl
theorem c41 : Try.prog.cellsOf 41 = 1 := by kernel_rfl
theorem c43 : Try.prog.cellsOf 43 = 5 := by kernel_rfl
theorem b3 : Try.prog.bytesOf 3 = 8 := by kernel_rfl
theorem b4 : Try.prog.bytesOf 4 = 1 := by kernel_rfl
theorem b29 : Try.prog.bytesOf 29 = 24 := by kernel_rfl
theorem b51 : Try.prog.bytesOf 51 = 48 := by kernel_rfl
def i64 (x : Int) : Prop := -9223372036854775808 ≤ x ∧ x ≤ 9223372036854775807
theorem wf_i64 {x : Int} (h : (Lit.int .i64 x).wf = true) : i64 x := by
  simp [Lit.wf, IntKind.min, IntKind.max, IntKind.signed, IntKind.bits] at h
  exact ⟨h.1, by omega⟩
theorem one_of {W : World} {base : Nat} {t e : TypeId} {v x : Value} (hu : Try.prog.underlying t = some (.slice e)) (hv : Value.okWide Try.prog W .any base t v) (h : v.cells.toList = [x]) : v = x := by
  cases v with
  | agg cs =>
    unfold Value.okWide at hv
    rw [hu] at hv
    simp [Cell.okWide, Cell.ok, hu] at hv
  | _ => simp [Value.cells] at h; exact h
theorem fits3 {w : World} {m : Nat} {cs : List Value} (h : Fits Try.prog w (m + 1) 3 cs) : ∃ n, cs = [I n] ∧ (Lit.int .i64 n).wf = true := by
  unfold Fits at h; rw [Try.underlying3] at h; exact h
theorem fits4 {w : World} {m : Nat} {cs : List Value} (h : Fits Try.prog w (m + 1) 4 cs) : ∃ b, cs = [.bool b] := by
  unfold Fits at h; rw [Try.underlying4] at h; exact h
theorem add_cell {w : World} {a : Addr} {v : Value} (h : w.cell? a = some v) : a.block < w.heap.size := cell_lt h
theorem fits29 {w : World} {m k : Nat} {cs : List Value} (h : Fits Try.prog w (m + 2) 29 cs) (hb : Wk Try.prog w (k + 1) 29 cs) :
    ∃ p n c xs, cs = [.slice p n c] ∧ n ≤ c ∧ c ≤ 17592186044415 ∧ RdL w p n xs ∧ (∀ j, (∃ a, p = some a ∧ a.block = j) → 0 < n → j < w.heap.size) ∧ ∀ x ∈ xs, i64 x := by
  unfold Fits at h; rw [Try.underlying29] at h
  unfold Wk at hb; rw [Try.underlying29] at hb
  rcases h with rfl | ⟨a, len, cap, rfl, hl, hm, hx⟩
  · exact ⟨none, 0, 0, [], rfl, by omega, by omega, ⟨rfl, fun i x hx => by simp at hx⟩, (fun j ⟨a, h, _⟩ => by cases h), fun x hx => by cases hx⟩
  · obtain ⟨hc, _⟩ := hb _ _ _ rfl
    rw [b3, reach_eq] at hc
    have hcell : ∀ i, i < len → ∃ x, w.cell? (a.add i) = some (I x) ∧ i64 x := fun i hi => by
      obtain ⟨cs', h1, h2⟩ := hx i (by omega)
      obtain ⟨x, rfl, hw⟩ := fits3 h2
      rw [c3, Nat.mul_one] at h1
      exact ⟨x, cell_of_cells?_one h1, wf_i64 hw⟩
    let g : Nat → Int := fun i => match w.cell? (a.add i) with | some (.int _ x) => x | _ => 0
    have hg : ∀ i, i < len → w.cell? (a.add i) = some (I (g i)) ∧ i64 (g i) := fun i hi => by
      obtain ⟨x, h1, h2⟩ := hcell i hi
      have e : g i = x := by show (match w.cell? (a.add i) with | some (.int _ x) => x | _ => 0) = x; rw [h1]
      rw [e]; exact ⟨h1, h2⟩
    refine ⟨some a, len, cap, (List.range len).map g, rfl, hl, by omega, ⟨by simp, fun i x hx => ?_⟩, fun j hj h0 => ?_, fun x hx => ?_⟩
    · rw [List.getElem?_map] at hx
      by_cases hi : i < len
      · rw [List.getElem?_range hi] at hx
        injection hx with hx
        exact ⟨a, rfl, by rw [← hx]; exact (hg i hi).1⟩
      · rw [List.getElem?_eq_none (by simpa using hi)] at hx; cases hx
    · obtain ⟨a', ha, rfl⟩ := hj
      injection ha with ha; subst ha
      have := cell_lt (hg 0 h0).1
      rwa [blk_add] at this
    · obtain ⟨i, hi, rfl⟩ := List.mem_map.1 hx
      exact (hg i (by simpa using hi)).2
/-- a list's elements by their places -/
theorem list_of {α : Type} [Inhabited α] {n : Nat} {P : Nat → α → Prop} (h : ∀ i, i < n → ∃ x, P i x) : ∃ xs : List α, xs.length = n ∧ ∀ (i : Nat) (x : α), xs[i]? = some x → P i x := by
  refine ⟨(List.range n).map fun i => if hi : i < n then Classical.choose (h i hi) else default, by simp, fun i x hx => ?_⟩
  rw [List.getElem?_map] at hx
  by_cases hi : i < n
  · rw [List.getElem?_range hi] at hx
    simp only [Option.map_some, Option.some.injEq] at hx
    rw [dif_pos hi] at hx
    rw [← hx]; exact Classical.choose_spec (h i hi)
  · rw [List.getElem?_eq_none (by simpa using hi)] at hx; cases hx
theorem mem_at {α : Type} {xs : List α} {x : α} (h : x ∈ xs) : ∃ i : Nat, xs[i]? = some x := List.getElem?_of_mem h
/-- old blocks -/
abbrev Old (w : World) : Nat → Prop := fun i => i < w.heap.size
theorem fits26 {w : World} {m k : Nat} {cs : List Value} (h : Fits Try.prog w (m + 3) 26 cs) (hb : Wk Try.prog w (k + 2) 26 cs) :
    ∃ (p : Option Addr) (n c : Nat) (css : List (List Int)), cs = [.slice p n c] ∧ n ≤ c ∧ c ≤ 5864062014634 ∧ css.length = n ∧ (∀ es ∈ css, es.length ≤ 17592186044415 ∧ ∀ x ∈ es, i64 x) ∧
      ∀ (i : Nat) (es : List Int), css[i]? = some es → ∃ (a : Addr) (q : Option Addr) (m c : Nat), p = some a ∧ w.cell? (a.add i) = some (.slice q m c) ∧ m ≤ c ∧ c ≤ 17592186044415 ∧ RdL w q m es ∧ a.block < w.heap.size ∧ ∀ j, (∃ a, q = some a ∧ a.block = j) → 0 < m → j < w.heap.size := by
  unfold Fits at h; rw [Try.underlying26] at h
  unfold Wk at hb; rw [Try.underlying26] at hb
  rcases h with rfl | ⟨a, len, cap, rfl, hl, hm, hx⟩
  · exact ⟨none, 0, 0, [], rfl, by omega, by omega, rfl, (fun es he => by cases he), fun i es hi => by simp at hi⟩
  · obtain ⟨hc, hbs⟩ := hb _ _ _ rfl
    rw [b29, reach_eq] at hc
    obtain ⟨css, hlen, hP⟩ := list_of (n := len) (P := fun i (es : List Int) => (∃ (q : Option Addr) (m c : Nat), w.cell? (a.add i) = some (.slice q m c) ∧ m ≤ c ∧ c ≤ 17592186044415 ∧ RdL w q m es ∧ ∀ j, (∃ a, q = some a ∧ a.block = j) → 0 < m → j < w.heap.size) ∧ ∀ x ∈ es, i64 x) fun i hi => by
        obtain ⟨cs', h1, h2⟩ := hx i (by omega)
        obtain ⟨q, m, c, es, rfl, r1, r2, r3, r4, r5⟩ := fits29 h2 (hbs a rfl i hi _ h1)
        rw [c29, Nat.mul_one] at h1
        exact ⟨es, ⟨q, m, c, cell_of_cells?_one h1, r1, r2, r3, r4⟩, r5⟩
    refine ⟨some a, len, cap, css, rfl, hl, by omega, hlen, fun es he => ?_, fun i es hi => ?_⟩
    · obtain ⟨i, hi⟩ := mem_at he
      obtain ⟨⟨q, m, c, _, r1, r2, r3, _⟩, r5⟩ := hP i es hi
      exact ⟨by have := r3.len; omega, r5⟩
    · obtain ⟨⟨q, m, c, r0, r1, r2, r3, r4⟩, r5⟩ := hP i es hi
      have := cell_lt r0
      rw [blk_add] at this
      exact ⟨a, q, m, c, rfl, r0, r1, r2, r3, this, r4⟩
/-- what a formula's clauses are, as they come in -/
structure Cl (w : World) (p : Option Addr) (n c : Nat) (css : List (List Int)) : Prop where
  nc : n ≤ c
  cl : c ≤ 5864062014634
  len : css.length = n
  ok : ∀ es ∈ css, es.length ≤ 17592186044415 ∧ ∀ x ∈ es, i64 x
  cell : ∀ (i : Nat) (es : List Int), css[i]? = some es → ∃ (a : Addr) (q : Option Addr) (m c : Nat), p = some a ∧ w.cell? (a.add i) = some (.slice q m c) ∧ m ≤ c ∧ c ≤ 17592186044415 ∧ RdL w q m es ∧ a.block < w.heap.size ∧ ∀ j, (∃ a, q = some a ∧ a.block = j) → 0 < m → j < w.heap.size
theorem Cl.rdc {w : World} {p : Option Addr} {n c : Nat} {css : List (List Int)} (h : Cl w p n c css) : RdC (Old w) w p n css :=
  ⟨h.len, fun i es hi => by
    obtain ⟨a, q, m, c, h1, h2, _, _, h3, h4, h5⟩ := h.cell i es hi
    exact ⟨a, q, m, c, h1, h2, h3, h4, h5⟩⟩
theorem fits28 {w : World} {m k : Nat} {cs : List Value} (h : Fits Try.prog w (m + 4) 28 cs) (hb : Wk Try.prog w (k + 3) 28 cs) :
    ∃ nv p n c css, cs = [I nv, .slice p n c] ∧ i64 nv ∧ Cl w p n c css := by
  unfold Fits at h; rw [Try.underlying28] at h
  unfold Wk at hb; rw [Try.underlying28] at hb
  obtain ⟨hl, h⟩ := h
  rw [c28] at hl
  match cs, hl with
  | [a0, a1], _ =>
    obtain ⟨n0, e0, w0⟩ := fits3 (m := m + 2) (cs := [a0]) (by simpa [c3, c26] using h 0 _ rfl)
    obtain ⟨p, n, c, css, e1, r1, r2, r3, r4, r5⟩ := fits26 (m := m) (k := k) (cs := [a1]) (by simpa [c3, c26] using h 1 _ rfl) (by simpa [c3, c26] using hb 1 _ rfl)
    simp only [List.cons.injEq, and_true] at e0 e1
    subst e0 e1
    exact ⟨_, _, _, _, _, rfl, wf_i64 w0, r1, r2, r3, r4, r5⟩
/-- a call -/
structure OpT where
  kind : Int
  which : Int
  lit : Int
  ls : List Int
instance : Inhabited OpT := ⟨⟨0, 0, 0, []⟩⟩
/-- where a call stands -/
def OpAt (w : World) (a : Addr) (x : OpT) : Prop :=
  i64 x.kind ∧ i64 x.which ∧ i64 x.lit ∧ (∀ y ∈ x.ls, i64 y) ∧ ∃ q m c, w.cell? (a.add 0) = some (I x.kind) ∧ w.cell? (a.add 1) = some (I x.which) ∧ w.cell? (a.add 2) = some (I x.lit) ∧ w.cell? (a.add 3) = some (.slice q m c) ∧ m ≤ c ∧ c ≤ 17592186044415 ∧ RdL w q m x.ls ∧ a.block < w.heap.size ∧ ∀ j, (∃ a, q = some a ∧ a.block = j) → 0 < m → j < w.heap.size
theorem add_add (a : Addr) (i j : Nat) : (a.add i).add j = a.add (i + j) := by
  obtain ⟨b, o, s⟩ := a
  unfold Addr.add
  by_cases hi : i = 0
  · subst hi; simp
  · by_cases hj : j = 0
    · subst hj; simp
    · simp [hi, hj, Nat.add_assoc]
theorem fits51 {w : World} {m k : Nat} {a : Addr} {cs : List Value} (h : Fits Try.prog w (m + 3) 51 cs) (hb : Wk Try.prog w (k + 2) 51 cs) (hc : w.cells? 0 a 4 = some cs) : ∃ x, OpAt w a x := by
  unfold Fits at h; rw [Try.underlying51] at h
  unfold Wk at hb; rw [Try.underlying51] at hb
  obtain ⟨hl, h⟩ := h
  rw [c51] at hl
  obtain ⟨_, _, hc⟩ := World.cells?_some hc
  match cs, hl with
  | [a0, a1, a2, a3], _ =>
    obtain ⟨n0, e0, w0⟩ := fits3 (m := m + 1) (cs := [a0]) (by simpa [c3, c29] using h 0 _ rfl)
    obtain ⟨n1, e1, w1⟩ := fits3 (m := m + 1) (cs := [a1]) (by simpa [c3, c29] using h 1 _ rfl)
    obtain ⟨n2, e2, w2⟩ := fits3 (m := m + 1) (cs := [a2]) (by simpa [c3, c29] using h 2 _ rfl)
    obtain ⟨q, n, c, xs, e3, r1, r2, r3, r4, r5⟩ := fits29 (m := m) (k := k) (cs := [a3]) (by simpa [c3, c29] using h 3 _ rfl) (by simpa [c3, c29] using hb 3 _ rfl)
    simp only [List.cons.injEq, and_true] at e0 e1 e2 e3
    subst e0 e1 e2 e3
    have h0 := hc 0 (by omega)
    have hlt := cell_lt h0
    rw [blk_add] at hlt
    exact ⟨⟨n0, n1, n2, xs⟩, wf_i64 w0, wf_i64 w1, wf_i64 w2, r5, q, n, c, h0, hc 1 (by omega), hc 2 (by omega), hc 3 (by omega), r1, r2, r3, hlt, r4⟩
/-- calls -/
structure Ops (w : World) (p : Option Addr) (n : Nat) (xs : List OpT) : Prop where
  len : xs.length = n
  nl : n ≤ 2932031007317
  cell : ∀ (i : Nat) (x : OpT), xs[i]? = some x → ∃ a, p = some a ∧ OpAt w (a.add (i * 4)) x
theorem fits41 {w : World} {m k : Nat} {cs : List Value} (h : Fits Try.prog w (m + 4) 41 cs) (hb : Wk Try.prog w (k + 3) 41 cs) :
    ∃ p n c xs, cs = [.slice p n c] ∧ Ops w p n xs := by
  unfold Fits at h; rw [Try.underlying41] at h
  unfold Wk at hb; rw [Try.underlying41] at hb
  rcases h with rfl | ⟨a, len, cap, rfl, hl, hm, hx⟩
  · exact ⟨none, 0, 0, [], rfl, rfl, by omega, fun i x hi => by simp at hi⟩
  · obtain ⟨hc, hbs⟩ := hb _ _ _ rfl
    rw [b51, reach_eq] at hc
    obtain ⟨xs, hlen, hP⟩ := list_of (n := len) (P := fun i (x : OpT) => OpAt w (a.add (i * 4)) x) fun i hi => by
        obtain ⟨cs', h1, h2⟩ := hx i (by omega)
        have hw := hbs a rfl i hi _ h1
        rw [c51] at h1
        exact fits51 h2 hw h1
    exact ⟨some a, len, cap, xs, rfl, hlen, by omega, fun i x hi => ⟨a, rfl, hP i x hi⟩⟩
/-- a list of bools in memory -/
structure RdB (w : World) (p : Option Addr) (n : Nat) (bs : List Bool) : Prop where
  len : bs.length = n
  cell : ∀ (i : Nat) (x : Bool), bs[i]? = some x → ∃ a, p = some a ∧ w.cell? (a.add i) = some (.bool x) ∧ a.block < w.heap.size
theorem fits54 {w : World} {m k : Nat} {cs : List Value} (h : Fits Try.prog w (m + 2) 54 cs) (hb : Wk Try.prog w (k + 1) 54 cs) :
    ∃ p n c bs, cs = [.slice p n c] ∧ n ≤ 140737488351232 ∧ RdB w p n bs := by
  unfold Fits at h; rw [Try.underlying54] at h
  unfold Wk at hb; rw [Try.underlying54] at hb
  rcases h with rfl | ⟨a, len, cap, rfl, hl, hm, hx⟩
  · exact ⟨none, 0, 0, [], rfl, by omega, rfl, fun i x hi => by simp at hi⟩
  · obtain ⟨hc, hbs⟩ := hb _ _ _ rfl
    rw [b4, reach_eq] at hc
    obtain ⟨xs, hlen, hP⟩ := list_of (n := len) (P := fun i (x : Bool) => w.cell? (a.add i) = some (.bool x) ∧ a.block < w.heap.size) fun i hi => by
        obtain ⟨cs', h1, h2⟩ := hx i (by omega)
        obtain ⟨b, rfl⟩ := fits4 h2
        rw [c4, Nat.mul_one] at h1
        have h3 := cell_of_cells?_one h1
        have := cell_lt h3
        rw [blk_add] at this
        exact ⟨b, h3, this⟩
    exact ⟨some a, len, cap, xs, rfl, by omega, hlen, fun i x hi => ⟨a, rfl, hP i x hi⟩⟩
section
variable {H : Type} {enc : TypeId × Value → H} {W : World} {base : Nat} {v : Value} {d : DataW H} {ps : List MemPlace}
theorem formula_of (hv : Value.okWide Try.prog W .any base 28 v) (h : DataW.Trod enc Try.prog W 0 (fun _ => true) true 28 v d ps) (hz : (d.weights Try.prog 28).all (· ≤ reachBytes) = true) :
    ∃ nv p n c css, v = .agg #[I nv, .slice p n c] ∧ i64 nv ∧ Cl W p n c css := by
  obtain ⟨cs, rfl⟩ := agg_of_struct Try.underlying28 hv
  obtain ⟨nv, p, n, c, css, e, r⟩ := fits28 (fits_of h 4) (wk_of h hz 3)
  have hcs : (Value.agg cs).cells.toList = cs.toList := rfl
  rw [hcs] at e
  exact ⟨nv, p, n, c, css, by rw [← Array.toArray_toList (xs := cs), e], r⟩
theorem ints_of (hv : Value.okWide Try.prog W .any base 29 v) (h : DataW.Trod enc Try.prog W 0 (fun _ => true) true 29 v d ps) (hz : (d.weights Try.prog 29).all (· ≤ reachBytes) = true) :
    ∃ p n c xs, v = .slice p n c ∧ n ≤ c ∧ c ≤ 17592186044415 ∧ RdL W p n xs ∧ (∀ j, (∃ a, p = some a ∧ a.block = j) → 0 < n → j < W.heap.size) ∧ ∀ x ∈ xs, i64 x := by
  obtain ⟨p, n, c, xs, e, r⟩ := fits29 (fits_of h 2) (wk_of h hz 1)
  exact ⟨p, n, c, xs, one_of Try.underlying29 hv e, r⟩
theorem ops_of (hv : Value.okWide Try.prog W .any base 41 v) (h : DataW.Trod enc Try.prog W 0 (fun _ => true) true 41 v d ps) (hz : (d.weights Try.prog 41).all (· ≤ reachBytes) = true) :
    ∃ p n c xs, v = .slice p n c ∧ Ops W p n xs := by
  obtain ⟨p, n, c, xs, e, r⟩ := fits41 (fits_of h 4) (wk_of h hz 3)
  exact ⟨p, n, c, xs, one_of Try.underlying41 hv e, r⟩
theorem bools_of (hv : Value.okWide Try.prog W .any base 54 v) (h : DataW.Trod enc Try.prog W 0 (fun _ => true) true 54 v d ps) (hz : (d.weights Try.prog 54).all (· ≤ reachBytes) = true) :
    ∃ p n c xs, v = .slice p n c ∧ n ≤ 140737488351232 ∧ RdB W p n xs := by
  obtain ⟨p, n, c, xs, e, r⟩ := fits54 (fits_of h 2) (wk_of h hz 1)
  exact ⟨p, n, c, xs, one_of Try.underlying54 hv e, r⟩
theorem script_of (hv : Value.okWide Try.prog W .any base 43 v) (h : DataW.Trod enc Try.prog W 0 (fun _ => true) true 43 v d ps) (hz : (d.weights Try.prog 43).all (· ≤ reachBytes) = true) :
    ∃ nv p n c css nv' p' n' c' css' sp sn sc xs, v = .agg #[I nv, .slice p n c, I nv', .slice p' n' c', .slice sp sn sc] ∧ i64 nv ∧ Cl W p n c css ∧ i64 nv' ∧ Cl W p' n' c' css' ∧ Ops W sp sn xs := by
  obtain ⟨cs, rfl⟩ := agg_of_struct Try.underlying43 hv
  have hf := fits_of h 6
  have hb := wk_of h hz 5
  unfold Fits at hf; rw [Try.underlying43] at hf
  unfold Wk at hb; rw [Try.underlying43] at hb
  obtain ⟨hl, hf⟩ := hf
  rw [c43] at hl
  have hcs : (Value.agg cs).cells.toList = cs.toList := rfl
  rw [hcs] at hl hf hb
  obtain ⟨l, rfl⟩ : ∃ l : List Value, cs = l.toArray := ⟨cs.toList, by simp⟩
  simp only [] at hl hf hb
  match l, hl with
  | [a0, a1, a2, a3, a4], _ =>
    obtain ⟨nv, p, n, c, css, e0, r0⟩ := fits28 (m := 1) (k := 1) (cs := [a0, a1]) (by simpa [c28, c41] using hf 0 _ rfl) (by simpa [c28, c41] using hb 0 _ rfl)
    obtain ⟨nv', p', n', c', css', e1, r1⟩ := fits28 (m := 1) (k := 1) (cs := [a2, a3]) (by simpa [c28, c41] using hf 1 _ rfl) (by simpa [c28, c41] using hb 1 _ rfl)
    obtain ⟨sp, sn, sc, xs, e2, r2⟩ := fits41 (m := 1) (k := 1) (cs := [a4]) (by simpa [c28, c41] using hf 2 _ rfl) (by simpa [c28, c41] using hb 2 _ rfl)
    simp only [List.cons.injEq, and_true] at e0 e1 e2
    obtain ⟨rfl, rfl⟩ := e0; obtain ⟨rfl, rfl⟩ := e1; subst e2
    exact ⟨_, _, _, _, css, _, _, _, _, css', _, _, _, xs, rfl, r0.1, r0.2, r1.1, r1.2, r2⟩
end
end Go.Proofs.Ytjpblaenebodlaa.Wt

/- WatchFollows. -/
set_option linter.unusedVariables false
set_option linter.unusedSimpArgs false
set_option linter.unusedSectionVars false
set_option maxRecDepth 100000
namespace Go.Proofs.Ytjpblaenebodlaa.Wt
open Go Go.Proofs.Ytjpblaenebodlaa.Vc Go.Proofs.Ytjpblaenebodlaa.T
open Go.Proofs.Ytjpblaenebodlaa.Apart (RdL own_rdl wrap_nat getE own_len copy same take_snoc Sl sv New LL)
open Go.Proofs.Ytjpblaenebodlaa.Lits (fl fl_iff idx idx_inj idx_range Ans ans_of indexP formedP tidyP Td Srt)

def tru (m : List Bool) (l : Int) : Bool :=
  if l < 0 then (if l < -(m.length : Int) then true else !(m[(-l - 1).toNat]?.getD false))
  else (if 0 < l ∧ l ≤ (m.length : Int) then m[(l - 1).toNat]?.getD false else false)
theorem tru_not (m : List Bool) (x : Int) (h : tru m x = true) : ¬ tru m (-x) = true := by
  unfold tru at *
  by_cases h1 : x < 0
  · rw [if_pos h1] at h
    rw [if_neg (by omega)]
    by_cases h2 : x < -(m.length : Int)
    · rw [if_neg (by omega)]; decide
    · rw [if_neg h2] at h
      rw [if_pos (by omega)]
      intro h3
      rw [h3] at h; cases h
  · rw [if_neg h1] at h
    by_cases h2 : 0 < x ∧ x ≤ (m.length : Int)
    · rw [if_pos h2] at h
      rw [if_pos (by omega), if_neg (by omega), Int.neg_neg, h]; decide
    · rw [if_neg h2] at h; cases h
theorem RdB.keep0 {w w' : World} {p : Option Addr} {n : Nat} {bs : List Bool} (h : RdB w p n bs) (hk : Keep None w w') : RdB w' p n bs :=
  ⟨h.len, fun i x hx => by obtain ⟨a, h1, h2, h3⟩ := h.cell i x hx; exact ⟨a, h1, hk.cell h2 fun h => h, Nat.lt_of_lt_of_le h3 hk.size⟩⟩
theorem RdB.ix {w : World} {p : Option Addr} {n : Nat} {bs : List Bool} (h : RdB w p n bs) {i : Nat} (hi : i < n) {K : Addr → Prop} (hK : ∀ a x, bs[i]? = some x → w.cell? a = some (.bool x) → K a) : ixA p n (i : Int) 1 K := by
  obtain ⟨x, hx⟩ := getE (show i < bs.length by have := h.len; omega)
  obtain ⟨a, rfl, h2, _⟩ := h.cell i x hx
  refine ⟨by omega, by omega, ?_⟩
  show K _
  rw [Nat.mul_one, Int.toNat_natCast]
  exact hK _ x hx h2
theorem truth20 {w : World} {p : Option Addr} {n c : Nat} {m : List Bool} (hm : RdB w p n m) (hn : n ≤ 140737488351232) {l : Int} (hl : i64 l) :
    Calls Try.prog 20 #[.slice p n c, I l] w fun e w' => e = .returned (.bool (tru m l)) ∧ Keep None w w' := by
  refine ans_of (V20_calls p n c l w (Ans w _) ?_)
  unfold V20
  obtain ⟨ha, hb⟩ := hl
  have hlen := hm.len
  have e1 : IntKind.wrap .i64 (0 - (n : Int)) = -(n : Int) := by rw [IntKind.wrap_i64]; omega
  rw [e1]
  unfold tru
  rw [hlen]
  refine pif_of (fun hq => ?_) fun hq => ?_
  · have hq : l < 0 := by simpa using hq
    rw [if_pos hq]
    by_cases h2 : l < -(n : Int)
    · have hd : decide (l < -(n : Int)) = true := decide_eq_true h2
      rw [hd, if_pos h2]
      refine gd_f rfl (gd_f rfl ⟨rfl, Keep.refl _ _⟩)
    · have hd : decide (l < -(n : Int)) = false := decide_eq_false h2
      rw [hd, if_neg h2]
      have e2 : IntKind.wrap .i64 (IntKind.wrap .i64 (0 - l) - 1) = (((-l - 1).toNat : Nat) : Int) := by rw [IntKind.wrap_i64, IntKind.wrap_i64]; omega
      rw [e2]
      refine gd_t rfl (hm.ix (by omega) fun a x hx hc => gd_t rfl (ldB_of hc ⟨?_, Keep.refl _ _⟩))
      rw [hx]; rfl
  · have hq : ¬ l < 0 := by simpa using hq
    rw [if_neg hq]
    by_cases h2 : 0 < l ∧ l ≤ (n : Int)
    · have hd1 : decide (l > 0) = true := decide_eq_true h2.1
      have hd2 : decide (l ≤ (n : Int)) = true := decide_eq_true h2.2
      rw [hd1, hd2, if_pos h2]
      have e2 : IntKind.wrap .i64 (l - 1) = (((l - 1).toNat : Nat) : Int) := by rw [IntKind.wrap_i64]; omega
      rw [e2]
      refine gd_t rfl (hm.ix (by omega) fun a x hx hc => gd_t rfl (ldB_of hc ⟨?_, Keep.refl _ _⟩))
      rw [hx]; rfl
    · have hd : (cond (decide (l > 0)) (decide (l ≤ (n : Int))) false) = false := by
        by_cases h3 : 0 < l
        · have : ¬ l ≤ (n : Int) := fun h => h2 ⟨h3, h⟩
          simp [this]
        · have : decide (l > 0) = false := decide_eq_false h3
          rw [this]; rfl
      rw [hd, if_neg h2]
      exact gd_f rfl (gd_f rfl ⟨rfl, Keep.refl _ _⟩)
theorem holds19 {w : World} {p : Option Addr} {n c : Nat} {m : List Bool} (hm : RdB w p n m) (hn : n ≤ 140737488351232) {q : Option Addr} {k d : Nat} {cs : List Int} (hR : RdL w q k cs) (hk : k ≤ 17592186044416) (hc : ∀ x ∈ cs, i64 x) :
    Calls Try.prog 19 #[.slice p n c, .slice q k d] w fun e w' => ∃ r : Bool, e = .returned (.bool r) ∧ (r = true ↔ ∃ x ∈ cs, tru m x = true) ∧ Keep None w w' := by
  refine (V19_calls p n c q k d w (fun v w' => ∃ r : Bool, v = .bool r ∧ (r = true ↔ ∃ x ∈ cs, tru m x = true) ∧ Keep None w w') ?_).mono fun e w' ⟨v, he, r, hv, hk⟩ => ⟨r, by rw [he, hv], hk⟩
  unfold V19
  have hll := hR.len
  refine lp_of (fun s W => ∃ i : Nat, s.1 = i ∧ i ≤ k ∧ Keep None w W ∧ ∀ x ∈ cs.take i, ¬ tru m x = true) (fun s _ => (k - s.1).toNat) ⟨0, rfl, Nat.zero_le _, Keep.refl _ _, fun x hx => by simp at hx⟩ ?_
  rintro ⟨i', ⟨⟩⟩ W ⟨i, rfl, hi, kW, hv⟩
  simp only []
  refine pif_of (fun hlt => ?_) fun hge => ?_
  · have hlt : i < k := by simpa using hlt
    rw [wrap_nat i (by omega)]
    refine (hR.keep0 kW).ix hlt fun a x hx ha => ldI_of ha ?_
    refine cl_of ok20 (truth20 (hm.keep0 kW) hn (hc x (List.mem_of_getElem? hx))) fun e w2 ⟨he, k2⟩ => ⟨_, he, ?_⟩
    refine pif_of (fun hq => ⟨true, rfl, ⟨fun _ => ⟨x, List.mem_of_getElem? hx, hq⟩, fun _ => rfl⟩, kW.then0 k2⟩) fun hq => ?_
    refine ⟨⟨i + 1, rfl, hlt, kW.then0 k2, fun y hy => ?_⟩, by omega⟩
    rw [take_snoc hx] at hy
    rcases List.mem_append.1 hy with hy | hy
    · exact hv y hy
    · rw [List.mem_singleton.1 hy, hq]; decide
  · have hge : i = k := by simp at hge; omega
    subst hge
    rw [← hll, List.take_length] at hv
    exact ⟨false, rfl, ⟨fun h => (by cases h), fun ⟨x, hx, h⟩ => absurd h (hv x hx)⟩, kW⟩
/-- what holds while calls are made -/
def Fol (w : World) (m : List Bool) (b N : Nat) (W : World) : Prop :=
  ∃ M C S, Wa M W b C S ∧ (∀ i, M i → w.heap.size ≤ i) ∧ Keep None w W ∧ C.length ≤ N ∧ (∀ c ∈ C, ∃ x ∈ c, tru m x = true) ∧ ∀ x ∈ S.tr, tru m x = true
theorem fol_after {w : World} {m : List Bool} {b N : Nat} {M M' : Nat → Prop} {W W' : World} {C' : List (List Int)} {S' : WS} (hk : Keep None w W) (hM : ∀ i, M i → w.heap.size ≤ i) (hA : After M W b C' S' M' W')
    (hN : C'.length ≤ N) (hC : ∀ c ∈ C', ∃ x ∈ c, tru m x = true) (hT : ∀ x ∈ S'.tr, tru m x = true) : Fol w m b N W' := by
  refine ⟨M', C', S', hA.wa, fun i hi => ?_, hk.trans hA.kp fun i hi h => by have := hM i h; omega, hN, hC, hT⟩
  rcases hA.gr i hi with h | h
  · exact hM i h
  · exact Nat.le_trans hk.size h
theorem Fol.keep0 {w : World} {m : List Bool} {b N N' : Nat} {W W' : World} (h : Fol w m b N W) (hk : Keep None W W') (hN : N ≤ N') : Fol w m b N' W' := by
  obtain ⟨M, C, S, h1, h2, h3, h4, h5⟩ := h
  exact ⟨M, C, S, h1.keep0 hk, h2, h3.then0 hk, by omega, h5⟩
theorem Fol.kp {w : World} {m : List Bool} {b N : Nat} {W : World} (h : Fol w m b N W) : Keep None w W := by
  obtain ⟨M, C, S, _, _, h3, _⟩ := h
  exact h3
theorem OpAt.keep0 {w W : World} {a : Addr} {x : OpT} (h : OpAt w a x) (hk : Keep None w W) : OpAt W a x := by
  obtain ⟨r0, r1, r2, r3, q, m, c, h0, h1, h2, h3, h4, h5, h6, h7, h8⟩ := h
  have kc : ∀ {a : Addr} {v : Value}, w.cell? a = some v → W.cell? a = some v := fun h => hk.cell h fun h => h
  exact ⟨r0, r1, r2, r3, q, m, c, kc h0, kc h1, kc h2, kc h3, h4, h5, h6.keep0 hk, Nat.lt_of_lt_of_le h7 hk.size, fun j hj h0 => Nat.lt_of_lt_of_le (h8 j hj h0) hk.size⟩
theorem Ops.ix {w W : World} {p : Option Addr} {n : Nat} {xs : List OpT} (h : Ops w p n xs) (hk : Keep None w W) {i : Nat} (hi : i < n) {K : Addr → Prop} (hK : ∀ a x, xs[i]? = some x → OpAt W a x → K a) : ixA p n (i : Int) 4 K := by
  obtain ⟨x, hx⟩ := getE (show i < xs.length by have := h.len; omega)
  obtain ⟨a, rfl, h2⟩ := h.cell i x hx
  refine ⟨by omega, by omega, ?_⟩
  show K _
  rw [Int.toNat_natCast]
  exact hK _ x hx (h2.keep0 hk)
end Go.Proofs.Ytjpblaenebodlaa.Wt

/- WatchFollows: the law. -/
set_option linter.unusedVariables false
set_option linter.unusedSimpArgs false
set_option linter.unusedSectionVars false
set_option maxRecDepth 100000
namespace Go.Proofs.Ytjpblaenebodlaa.Wt
open Go Go.Proofs.Ytjpblaenebodlaa.Vc Go.Proofs.Ytjpblaenebodlaa.T
open Go.Proofs.Ytjpblaenebodlaa.Apart (RdL own_rdl wrap_nat getE own_len copy same take_snoc Sl sv New LL)
open Go.Proofs.Ytjpblaenebodlaa.Lits (fl fl_iff idx idx_inj idx_range Ans ans_of indexP formedP tidyP Td Srt)

/-- one call of a script, and what Run knows behind it -/
theorem law6 {w : World} {nv : Int} {p : Option Addr} {n c : Nat} {css : List (List Int)} (hC : Cl w p n c css) {mp : Option Addr} {mn mc : Nat} {m : List Bool} (hmn : mn ≤ 140737488351232) (hm : RdB w mp mn m) {sp : Option Addr} {sn sc : Nat} {xs : List OpT} (hS : Ops w sp sn xs) :
    Calls Try.prog 6 #[.agg #[I nv, .slice p n c], .slice mp mn mc, .slice sp sn sc] w fun e w' => e = .returned (.bool true) ∧ RowKit.Below w.heap.size w w' := by
  refine (V6_calls nv p n c mp mn mc sp sn sc w (fun v w' => v = .bool true ∧ Keep None w w') ?_).mono fun e w' ⟨v, he, hv, hk⟩ => ⟨by rw [he, hv], hk.below0⟩
  unfold V6
  have hnc := hC.nc; have hcl := hC.cl
  have hlen := hC.len
  refine alc_at fun b2 w1 hb2 hB2 k1 => ?_
  refine ldI_of (x := nv) (by rw [add_mk]; exact hB2.cell 0) ?_
  refine alc_at fun b5 w2 hb5 hB5 k2 => ?_
  rw [add_mk, add_mk, add_mk, Nat.zero_add, Nat.zero_add]
  refine st_of hB5 (by simp) rfl fun w3 hB5a k3 _ => ?_
  refine st_of hB5a (by simp) rfl fun w4 hB5b k4 z4 => ?_
  have s1 := k1.size; have s2 := k2.size; have s3 := k3.size; have s4 := k4.size
  have l2 := hB2.lt; have l5 := hB5.lt
  have k04 : Keep None w w4 := (((k1.trans k2 fun _ _ h => h).trans k3 fun i hi h => by have h' : i = b5 := h; omega).trans k4 fun i hi h => by have h' : i = b5 := h; omega)
  have hB2w : Blk w4 b2 [I nv, .slice p n c] 28 := ((hB2.keep0 k2).keep1 k3 (by omega)).keep1 k4 (by omega)
  refine lp_of (fun s W => ∃ (i : Nat) (q : Option Addr) (k d : Nat) (hs : List Sl) (ds : List (List Int)), s.1 = i ∧ i ≤ n ∧ k ≤ i ∧ Blk W b2 [I nv, .slice p n c] 28 ∧ Blk W b5 [I nv, .slice q k d] 28 ∧
      LL (fun i => w4.heap.size ≤ i) W q k d hs ds ∧ Keep None w W ∧ w4.heap.size ≤ W.heap.size ∧ (∀ e ∈ ds, e ∈ css ∧ ∃ x ∈ e, tru m x = true)) (fun s _ => (n - s.1).toNat)
    ⟨0, none, 0, 0, [], [], rfl, Nat.zero_le _, Nat.le_refl _, hB2w, hB5b, LL.nil _ _, k04, Nat.le_refl _, fun e he => by cases he⟩ ?_
  rintro ⟨i', ⟨⟩⟩ W ⟨i, q, k, d, hs, ds, rfl, hi, hki, hA, hB, hL, kW, sW, hD⟩
  simp only []
  refine ldC_of (x := p) (n := n) (c := c) (hA.cell 1) ?_
  refine pif_of (fun hlt => ?_) fun hge => ?_
  · have hlt : i < n := by simpa using hlt
    rw [wrap_nat i (by omega)]
    refine ⟨fun _ W' => ∃ (q : Option Addr) (k d : Nat) (hs : List Sl) (ds : List (List Int)), k ≤ i + 1 ∧ Blk W' b2 [I nv, .slice p n c] 28 ∧ Blk W' b5 [I nv, .slice q k d] 28 ∧
      LL (fun i => w4.heap.size ≤ i) W' q k d hs ds ∧ Keep None w W' ∧ w4.heap.size ≤ W'.heap.size ∧ (∀ e ∈ ds, e ∈ css ∧ ∃ x ∈ e, tru m x = true), ?_, ?_⟩
    rotate_left
    · rintro ⟨⟩ W' ⟨q, k, d, hs, ds, hk', h1, h2, h3, h4, h5, h6⟩
      exact ⟨⟨i + 1, q, k, d, hs, ds, rfl, hlt, hk', h1, h2, h3, h4, h5, h6⟩, by omega⟩
    refine ldC_of (x := p) (n := n) (c := c) (hA.cell 1) ?_
    obtain ⟨es, hes⟩ := getE (show i < css.length by omega)
    have hmm := List.mem_of_getElem? hes
    have hRC := hC.rdc.keep0 kW
    refine hRC.ix hes fun a q2 m2 c2 ha hRd => ldC_of ha ?_
    refine cl_of ok19 (holds19 (hm.keep0 kW) hmn hRd (by rw [← hRd.len]; have := (hC.ok es hmm).1; omega) (hC.ok es hmm).2) fun e w5 ⟨r, he, hr, k5⟩ => ⟨r, he, ?_⟩
    have hA5 := hA.keep0 k5; have hB5 := hB.keep0 k5
    refine pif_of (fun hq => ?_) fun hq => ⟨q, k, d, hs, ds, by omega, hA5, hB5, hL.keep0 k5, kW.then0 k5, by have := k5.size; omega, hD⟩
    have htrue := hr.1 hq
    refine ldC_of (x := q) (n := k) (c := d) (hB5.drew.cell 1) ?_
    refine ldC_of (x := p) (n := n) (c := c) (hA5.drew.cell 1) ?_
    refine (hRC.keep0 k5.drew).ix hes fun a' q2 m2 c2 ha hRd => ldC_of ha ?_
    refine cl_of ok13 (copy hRd (by rw [← hRd.len]; have := (hC.ok es hmm).1; omega)) fun e w6 ⟨v6, he, p6, c6, hv, hO6, hf6, k6⟩ => ⟨p6, es.length, c6, by rw [he, hv], ?_⟩
    have kd : Keep None W w6 := k5.drew.then0 k6
    have hB6 := hB.keep0 kd
    refine ⟨ldC_of (x := q) (n := k) (c := d) (hB6.cell 1) rfl, ?_⟩
    refine alc_at fun b7 w7 hb7 hB7 k7 => ?_
    have hB7' := hB6.keep0 k7
    refine ⟨ldC_of (x := q) (n := k) (c := d) (hB7'.cell 1) rfl, ?_⟩
    have zd := kd.size; have z7 := k7.size
    have hL7 : LL (fun i => w4.heap.size ≤ i ∧ i < W.heap.size) w7 q k d hs ds := ((hL.mono (M' := fun i => w4.heap.size ≤ i ∧ i < W.heap.size) fun i h1 h2 => ⟨h2, h1⟩).keep0 kd).keep0 k7
    have sz5 : W.heap.size ≤ w5.drew.heap.size := k5.size
    refine hL7.app (x := (p6, es.length, c6)) (M' := fun i => w4.heap.size ≤ i) (hO6.keep0 k7) (fun j hj => ⟨by have := hf6 j hj; show w4.heap.size ≤ j; omega, fun h => by have := hf6 j hj; omega⟩) (fun i h => h.1) (by omega) hB7 fun p' c' w8 hL' k8 => ?_
    have z8 := k8.size
    have hb5lt : b5 < w4.heap.size := hB5b.lt
    have hb2lt : b2 < w4.heap.size := hB2w.lt
    have hB8 : Blk w8 b5 [I nv, .slice q k d] 28 := hB7'.keep k8 fun h => by have := h.1; omega
    have hA8 : Blk w8 b2 [I nv, .slice p n c] 28 := ((hA.keep0 kd).keep0 k7).keep k8 fun h => by have := h.1; omega
    refine st_of hB8 (by simp) rfl fun w9 hB9 k9 z9 => ?_
    have kall : Keep None w w9 := (((kW.trans kd fun _ _ h => h).trans k7 fun _ _ h => h).trans k8 fun i hi h => by have := h.1; omega).trans k9 fun i hi h => by have h' : i = b5 := h; omega
    refine ⟨p', k + 1, c', hs ++ [(p6, es.length, c6)], ds ++ [es], by omega, hA8.keep1 k9 (by omega), hB9, ?_, kall, by omega, ?_⟩
    · refine (hL'.mono (M' := fun i => w4.heap.size ≤ i) fun i _ h => ?_).keep k9 fun i hi h => by have h' : i = b5 := h; have hi' : w4.heap.size ≤ i := hi; omega
      rcases h.2 with h | h
      · exact h
      · show w4.heap.size ≤ i; omega
    · intro e he
      rcases List.mem_append.1 he with he | he
      · exact hD e he
      · rw [List.mem_singleton.1 he]; exact ⟨hmm, htrue⟩
  · have hge : i = n := by simp at hge; omega
    subst hge
    refine ldI_of (x := nv) (hB.cell 0) ?_
    refine ldC_of (x := q) (n := k) (c := d) (hB.cell 1) ?_
    have hcap : cap = 8796093022208 := rfl
    refine cl_of ok7 (wa_new (LLrdc (hL.mono (M' := fun i => i < W.heap.size) fun i h _ => h)) (fun i h => h) (by omega) (fun es he => by have := (hC.ok es (hD es he).1).1; omega)) fun e w5 ⟨wq, v5, he, hN⟩ => ⟨wq, v5, he, ?_⟩
    rcases hN with ⟨rfl, rfl, _, k5⟩ | ⟨b, M, S, rfl, rfl, hf, hWa, hM, k5, n1, n2, n3, n4, n5⟩
    · exact pif_t rfl ⟨rfl, kW.then0 k5⟩
    refine pif_f rfl ?_
    have hsn := hS.nl
    have hsl := hS.len
    refine lp_of (fun s W' => ∃ j : Nat, s.1 = j ∧ j ≤ sn ∧ Fol w m b (i + j) W') (fun s _ => (sn - s.1).toNat) ⟨0, rfl, Nat.zero_le _, M, ds, S, hWa, fun j hj => Nat.le_trans kW.size (hM j hj), kW.then0 k5, by rw [hL.len]; omega, fun e he => (hD e he).2, by rw [n2]; exact fun x hx => by cases hx⟩ ?_
    rintro ⟨j', ⟨⟩⟩ W1 ⟨j, rfl, hj, hF⟩
    simp only []
    refine pif_of (fun hlt => ?_) fun hge => ?_
    · have hlt : j < sn := by simpa using hlt
      rw [wrap_nat j (by omega)]
      obtain ⟨M1, C1, S1, hW1, hM1, kW1, hN1, hC1, hT1⟩ := id hF
      refine ⟨fun _ W' => Fol w m b (i + j + 1) W', ?_, ?_⟩
      · refine hS.ix kW1 hlt fun a x hx hat => ?_
        obtain ⟨r0, r1, r2, r3, oq, om, oc, h0, h1, h2, h3, h4, h5, h6, h7, h8⟩ := hat
        refine ldI_of h0 ?_
        refine pif_of (fun hq => ?_) fun hq => ?_
        · refine hS.ix kW1 hlt fun a' x' hx' hat' => ?_
          rw [hx] at hx'; injection hx' with hx'; subst hx'
          obtain ⟨_, _, _, _, oq, om, oc, _, _, _, h3, h4, h5, h6, _, _⟩ := hat'
          refine ldC_of h3 ?_
          refine cl_of ok19 (holds19 (hm.keep0 kW1) hmn h6 (by omega) r3) fun e w2 ⟨r, he, hr, k2⟩ => ⟨r, he, ?_⟩
          refine pif_of (fun hq2 => ?_) fun hq2 => hF.keep0 k2 (by omega)
          have kk := kW1.then0 k2
          refine hS.ix kk hlt fun a' x' hx' hat' => ?_
          rw [hx] at hx'; injection hx' with hx'; subst hx'
          obtain ⟨_, _, _, _, oq, om, oc, _, _, _, h3, h4, h5, h6, _, _⟩ := hat'
          refine ldC_of h3 ?_
          refine cl_of ok13 (copy h6 (by omega)) fun e w3 ⟨v3, he, p3, c3, hv, hO3, hf3, k3⟩ => ⟨p3, x.ls.length, c3, by rw [he, hv], ?_⟩
          have hW3 := (hW1.keep0 k2).keep0 k3
          have hxl : x.ls.length ≤ 17592186044416 := by have := h6.len; omega
          refine cl_of ok12 (wa_add hW3 (own_rdl hO3) (by omega) (by rw [show cap = 8796093022208 from rfl]; omega)) fun e w4 hh => ?_
          have kw3 : Keep None w w3 := kk.then0 k3
          rcases hh with ⟨he, _, k4⟩ | ⟨he, hw, M', S', hAf, e1, e2, e3, e4, e5⟩
          · exact ⟨1, he, ((hF.keep0 k2 (Nat.le_refl _)).keep0 k3 (Nat.le_refl _)).keep0 k4 (by omega)⟩
          · refine ⟨0, he, fol_after kw3 hM1 hAf (by rw [List.length_append, List.length_singleton]; omega) (fun cc hcc => ?_) (by rw [e2]; exact hT1)⟩
            rcases List.mem_append.1 hcc with hcc | hcc
            · exact hC1 cc hcc
            · rw [List.mem_singleton.1 hcc]; exact hr.1 hq2
        · refine pif_of (fun hq => ?_) fun hq => ?_
          · refine hS.ix kW1 hlt fun a' x' hx' hat' => ?_
            rw [hx] at hx'; injection hx' with hx'; subst hx'
            obtain ⟨_, _, _, _, oq, om, oc, _, _, h2, _, _, _, _, _, _⟩ := hat'
            refine ldI_of h2 ?_
            refine cl_of ok20 (truth20 (hm.keep0 kW1) hmn r2) fun e w2 ⟨he, k2⟩ => ⟨_, he, ?_⟩
            refine pif_of (fun hq2 => ?_) fun hq2 => hF.keep0 k2 (by omega)
            have kk := kW1.then0 k2
            refine hS.ix kk hlt fun a' x' hx' hat' => ?_
            rw [hx] at hx'; injection hx' with hx'; subst hx'
            obtain ⟨_, _, _, _, oq, om, oc, _, _, h2, _, _, _, _, _, _⟩ := hat'
            refine ldI_of h2 ?_
            refine cl_of ok8 (wa_assume (hW1.keep0 k2) x.lit) fun e w3 ⟨v3, he, hh⟩ => ⟨v3, he, ?_⟩
            rcases hh with ⟨_, _, k3⟩ | ⟨_, _, _, k3⟩ | ⟨_, _, _, _, k3⟩ | ⟨_, _, _, _, M', hAf⟩
            · exact (hF.keep0 k2 (Nat.le_refl _)).keep0 k3 (by omega)
            · exact (hF.keep0 k2 (Nat.le_refl _)).keep0 k3 (by omega)
            · exact (hF.keep0 k2 (Nat.le_refl _)).keep0 k3 (by omega)
            · refine fol_after kk hM1 hAf (by omega) hC1 fun y hy => ?_
              have hy' : y ∈ S1.tr ++ [x.lit] := hy
              rcases List.mem_append.1 hy' with hy | hy
              · exact hT1 y hy
              · rw [List.mem_singleton.1 hy]; exact hq2
          · refine pif_of (fun hq => ?_) fun hq => ?_
            · refine cl_of ok9 (wa_undo hW1) fun e w2 hh => ?_
              rcases hh with ⟨he, _, k2⟩ | ⟨he, st', s, M', _, hAf⟩
              · exact ⟨3, he, hF.keep0 k2 (by omega)⟩
              · exact ⟨0, he, fol_after kW1 hM1 hAf (by omega) hC1 fun y hy => hT1 y (List.mem_of_mem_take hy)⟩
            · exact hF.keep0 (Keep.refl _ _) (by omega)
      · rintro ⟨⟩ W2 hF2
        obtain ⟨M2, C2, S2, hW2, hM2, kW2, hN2, hC2, hT2⟩ := hF2
        refine cl_of ok10 (wa_run hW2) fun e w7 ⟨v, M', S', he, hAf, e1, e2, e3, e4, e5, e6, e7⟩ => ⟨v, he, ?_⟩
        obtain rfl : v = true := e5.2 (clash_true (T := fun x => tru m x = true) (tru_not m) hC2 hT2)
        have hT3 : ∀ x ∈ S'.tr, tru m x = true := fun x hx => der_true (T := fun x => tru m x = true) (tru_not m) hC2 hT2 (((e6 rfl).2 x).1 hx)
        have hF3 : Fol w m b (i + (j + 1)) w7 := fol_after kW2 hM2 hAf (by omega) hC2 hT3
        have hnv := hAf.wa.at_.iv.wf.nvb
        have hwi := hAf.wa.at_.iv.wf.wi
        refine cl_of ok21 (wa_lits hAf.wa) fun e w8 ⟨v8, L, he, hT, p8, c8, hv8, hO8, hf8, k8⟩ => ⟨p8, L.length, c8, by rw [he, hv8], ?_⟩
        refine gd_t rfl (cl_of ok22 (wa_clash (hAf.wa.keep0 k8)) fun e w9 ⟨he, k9⟩ => ⟨_, he, ?_⟩)
        rw [e4]
        refine pif_f rfl ?_
        have hF9 := (hF3.keep0 k8 (Nat.le_refl _)).keep0 k9 (Nat.le_refl _)
        have hR9 := (own_rdl hO8).keep0 k9
        have hLl : L.length ≤ 2097153 := by have := hT.len; omega
        refine lp_of (fun s W' => ∃ k : Nat, s.1 = k ∧ k ≤ L.length ∧ Keep None w9 W') (fun s _ => (L.length - s.1).toNat) ⟨0, rfl, Nat.zero_le _, Keep.refl _ _⟩ ?_
        rintro ⟨k', ⟨⟩⟩ W3 ⟨k, rfl, hk, k3⟩
        simp only []
        refine pif_of (fun hlt2 => ?_) fun hge2 => ?_
        · have hlt2 : k < L.length := by simpa using hlt2
          rw [wrap_nat k (by omega)]
          refine (hR9.keep0 k3).ix hlt2 fun a x hx ha => ldI_of ha ?_
          have hxt := (hT.mem x).1 (List.mem_of_getElem? hx)
          have hxw := hwi x hxt.1
          refine cl_of ok20 (truth20 ((hm.keep0 hF9.kp).keep0 k3) hmn ⟨by have := hxw.2.1; omega, by have := hxw.2.2; omega⟩) fun e w10 ⟨he, k10⟩ => ⟨_, he, ?_⟩
          rw [hT3 x hxt.1]
          exact pif_f rfl ⟨⟨k + 1, rfl, hlt2, k3.then0 k10⟩, by omega⟩
        · exact ⟨⟨j + 1, rfl, hlt, hF9.keep0 k3 (Nat.le_refl _)⟩, by omega⟩
    · obtain ⟨M1, C1, S1, hW1, hM1, kW1, hN1, hC1, hT1⟩ := hF
      refine cl_of ok10 (wa_run hW1) fun e w7 ⟨v, M', S', he, hAf, e1, e2, e3, e4, e5, e6, e7⟩ => ⟨v, he, ?_⟩
      obtain rfl : v = true := e5.2 (clash_true (T := fun x => tru m x = true) (tru_not m) hC1 hT1)
      exact ⟨rfl, kW1.trans hAf.kp fun i hi h => by have := hM1 i h; omega⟩
end Go.Proofs.Ytjpblaenebodlaa.Wt

/- WatchRoads: what assumptions come to, in plain; the walk of assumed. -/
set_option linter.unusedVariables false
set_option linter.unusedSimpArgs false
set_option linter.unusedSectionVars false
set_option maxRecDepth 100000
namespace Go.Proofs.Ytjpblaenebodlaa.Wt
open Go Go.Proofs.Ytjpblaenebodlaa.Vc Go.Proofs.Ytjpblaenebodlaa.T
open Go.Proofs.Ytjpblaenebodlaa.Apart (RdL own_rdl wrap_nat getE own_len copy same take_snoc Sl sv New LL)
open Go.Proofs.Ytjpblaenebodlaa.Lits (fl fl_iff idx idx_inj idx_range Ans ans_of indexP formedP tidyP Td Srt)

inductive DerP (C : List (List Int)) (K : Int → Prop) : Int → Prop
  | fact {l : Int} : K l → DerP C K l
  | unit {c : List Int} {l : Int} : c ∈ C → l ∈ c → (∀ x ∈ c, x ≠ l → DerP C K (-x)) → DerP C K l
theorem derP {C : List (List Int)} {L : List Int} {x : Int} : DerP C (· ∈ L) x ↔ Der C L x := by
  constructor
  · intro h
    induction h with
    | fact h => exact Der.fact h
    | unit hc hl _ ih => exact Der.unit hc hl ih
  · intro h
    induction h with
    | fact h => exact DerP.fact h
    | unit hc hl _ ih => exact DerP.unit hc hl ih
def ClaP (C : List (List Int)) (K : Int → Prop) : Prop := ∃ c ∈ C, ∀ x ∈ c, DerP C K (-x)
theorem claP {C : List (List Int)} {L : List Int} : ClaP C (· ∈ L) ↔ Clash C L :=
  ⟨fun ⟨c, hc, h⟩ => ⟨c, hc, fun x hx => derP.1 (h x hx)⟩, fun ⟨c, hc, h⟩ => ⟨c, hc, fun x hx => derP.2 (h x hx)⟩⟩
theorem DerP.cut {C C' : List (List Int)} {K K' : Int → Prop} (hC : ∀ c, c ∈ C → c ∈ C') (hK : ∀ x, K x → DerP C' K' x) {x : Int} (h : DerP C K x) : DerP C' K' x := by
  induction h with
  | fact h => exact hK _ h
  | unit hc hl _ ih => exact DerP.unit (hC _ hc) hl ih
theorem ClaP.cut {C C' : List (List Int)} {K K' : Int → Prop} (hC : ∀ c, c ∈ C → c ∈ C') (hK : ∀ x, K x → DerP C' K' x) (h : ClaP C K) : ClaP C' K' := by
  obtain ⟨c, hc, h⟩ := h
  exact ⟨c, hC c hc, fun x hx => (h x hx).cut hC hK⟩
open Classical in
/-- assumptions, each behind the other, those that can be: what is known in the end (none: a clash), and how many stand -/
noncomputable def asm (C : List (List Int)) (nv : Nat) : List Int → (Int → Prop) → Nat → Option (Int → Prop) × Nat
  | [], K, d => (some K, d)
  | l :: fs, K, d =>
    if Wi nv l ∧ ¬ K l ∧ ¬ K (-l) then
      (if ClaP C (fun x => K x ∨ x = l) then (none, d + 1) else asm C nv fs (DerP C fun x => K x ∨ x = l) (d + 1))
    else asm C nv fs K d
theorem asm_same {C C' : List (List Int)} (h : ∀ c, c ∈ C ↔ c ∈ C') (nv : Nat) : asm C nv = asm C' nv := by
  have hd : ∀ K, DerP C K = DerP C' K := fun K => funext fun x => propext ⟨fun hx => hx.cut (fun c => (h c).1) fun _ h => .fact h, fun hx => hx.cut (fun c => (h c).2) fun _ h => .fact h⟩
  have hc : ∀ K, ClaP C K = ClaP C' K := fun K => propext ⟨fun hx => hx.cut (fun c => (h c).1) fun _ h => .fact h, fun hx => hx.cut (fun c => (h c).2) fun _ h => .fact h⟩
  funext fs
  induction fs with
  | nil => rfl
  | cons l fs ih =>
    funext K d
    unfold asm
    rw [ih]
    rw [hd, hc]
section
variable {M M' N : Nat → Prop} {w w' W : World} {b b2 : Nat} {C C2 : List (List Int)} {S S' S2 : WS}
theorem After.trans {C1 : List (List Int)} {S1 : WS} {M1 : Nat → Prop} {w1 : World} (h : After M w b C1 S1 M1 w1) (h' : After M1 w1 b C S' M' w') : After M w b C S' M' w' :=
  ⟨h'.wa, fun i hi => by
    rcases h'.gr i hi with hi | hi
    · exact h.gr i hi
    · exact Or.inr (Nat.le_trans h.kp.size hi), h.kp.trans h'.kp fun i hi hm => by
    rcases h.gr i hm with h | h
    · exact h
    · omega⟩
/-- another Watch lives on -/
theorem After.other (h : After M w b C S' M' w') (h2 : Wa N w b2 C2 S2) (hd : ∀ i, M i → ¬ N i) : Wa N w' b2 C2 S2 ∧ ∀ i, M' i → ¬ N i :=
  ⟨h2.keep h.kp hd, fun i hi hn => by
    rcases h.gr i hi with h | h
    · exact hd i h hn
    · have := h2.lt i hn; omega⟩
theorem After.keep0 {w1 : World} (h : After M w b C S' M' w') (hk : Keep None w' w1) : After M w b C S' M' w1 := ⟨h.wa.keep0 hk, h.gr, h.kp.then0 hk⟩
theorem After.pre0 {w0 : World} (h : After M w b C S' M' w') (hk : Keep None w0 w) : After M w0 b C S' M' w' := ⟨h.wa, fun i hi => (h.gr i hi).imp id fun h => Nat.le_trans hk.size h, (hk.none (S := M)).trans h.kp fun i _ h => h⟩
end
/-- what assumed answers -/
def Out15 (C : List (List Int)) (w : World) (M : Nat → Prop) (b : Nat) (S : WS) (A : Option (Int → Prop) × Nat) (r : Bool) (p : Option Addr) (n c : Nat) (w' : World) : Prop :=
  ∃ M' S', After M w b C S' M' w' ∧ S'.st.length = A.2 ∧ r = A.1.isSome ∧ ∃ L, RdL w' p n L ∧ n ≤ 2097153 ∧ (∀ j, ob p j → w.heap.size ≤ j ∧ j < w'.heap.size ∧ ¬ M' j) ∧ (A.1 = none → L = []) ∧ ∀ K, A.1 = some K → Td K L
open Classical in
theorem assumed15 {M : Nat → Prop} {w : World} {b : Nat} {C : List (List Int)} {S : WS} (h : Wa M w b C S) {fp : Option Addr} {fn fc : Nat} {fs : List Int} (hF : RdL w fp fn fs) (hfn : fn ≤ 17592186044416) (hfM : ∀ j, ob fp j → 0 < fn → ¬ M j ∧ j < w.heap.size) :
    Calls Try.prog 15 #[Pt b, .slice fp fn fc] w fun e w' => ∃ r p n c, e = .returned (.tuple #[.bool r, .slice p n c]) ∧
      Out15 C w M b S (if ClaP C (· ∈ S.tr) then (none, S.st.length) else asm C S.nv fs (DerP C (· ∈ S.tr)) S.st.length) r p n c w' := by
  refine (V15_calls (some ⟨b, 0, none⟩) fp fn fc w (fun v w' => ∃ r p n c, v = .tuple #[.bool r, .slice p n c] ∧
      Out15 C w M b S (if ClaP C (· ∈ S.tr) then (none, S.st.length) else asm C S.nv fs (DerP C (· ∈ S.tr)) S.st.length) r p n c w') ?_).mono fun e w' ⟨v, he, r, p, n, c, hv, hk⟩ => ⟨r, p, n, c, by rw [he, hv], hk⟩
  unfold V15
  have hlen := hF.len
  refine cl_of ok10 (wa_run h) fun e w1 ⟨v, M1, S1, he, hA1, e1, e2, e3, e4, e5, e6, e7⟩ => ⟨v, he, ?_⟩
  have e5' : v = true ↔ ¬ ClaP C (· ∈ S.tr) := by rw [claP]; exact e5
  generalize hA : (if ClaP C (· ∈ S.tr) then ((none : Option (Int → Prop)), S.st.length) else asm C S.nv fs (DerP C (· ∈ S.tr)) S.st.length) = A
  refine lp_of (fun s W => ∃ (i : Nat) (M2 : Nat → Prop) (S2 : WS), s.2.1 = i ∧ i ≤ fn ∧ After M w b C S2 M2 W ∧ S2.nv = S.nv ∧ S2.rest = s.1 ∧ (s.1 = true → A = asm C S.nv (fs.drop i) (· ∈ S2.tr) S2.st.length) ∧ (s.1 = false → A = (none, S2.st.length))) (fun s _ => (fn - s.2.1).toNat)
    ⟨0, M1, S1, rfl, Nat.zero_le _, hA1, e1, e3, fun hv => ?_, fun hv => ?_⟩ ?_
  · have hv : v = true := hv
    rw [← hA, if_neg (e5'.1 hv), List.drop_zero, e2]
    congr 1
    funext x
    exact propext (derP.trans (((e6 hv).2 x).symm))
  · have hv : v = false := hv
    have : ClaP C (· ∈ S.tr) := by
      apply Classical.byContradiction
      intro hn
      rw [e5'.2 hn] at hv; cases hv
    rw [← hA, if_pos this, e2]
  rintro ⟨v2, i', ⟨⟩⟩ W ⟨i, M2, S2, rfl, hi, hA2, f1, f2, f3, f4⟩
  simp only [] at f2 f3 f4 ⊢
  have h2 := hA2.wa
  have h0 : ∀ c ∈ C, ∀ x ∈ c, x ≠ 0 := fun c hc x hx => (h2.cw c hc x hx).1
  refine pif_of (fun hq => ?_) fun hq => ?_
  · have hq2 : i < fn ∧ v2 = true := by
      cases v2 with
      | true => exact ⟨by simpa using hq, rfl⟩
      | false => simp at hq
    obtain ⟨hlt, rfl⟩ := hq2
    rw [wrap_nat i (by omega)]
    have hRd := Apart.RdL.keep hF hA2.kp (fun j hj => fun hm => (hfM j hj (by omega)).1 hm)
    refine hRd.ix hlt fun a x hx ha => ldI_of ha ?_
    have hdr : fs.drop i = x :: fs.drop (i + 1) := by
      obtain ⟨h1, h2⟩ := List.getElem?_eq_some_iff.1 hx
      rw [List.drop_eq_getElem_cons h1, h2]
    have hA3 := f3 rfl
    rw [hdr] at hA3
    have hclo := h2.at_.rest f2
    refine cl_of ok8 (wa_assume h2 x) fun e w2 ⟨v3, he, hh⟩ => ⟨v3, he, ?_⟩
    have skip : ¬ (Wi S.nv x ∧ x ∉ S2.tr ∧ -x ∉ S2.tr) → Keep None W w2 → cl Try.prog 10 [.pointer (some ⟨b, 0, none⟩)] w2 fun e18 w4 => ∃ x17 : Bool, e18 = Ending.returned (.bool x17) ∧
        ((∃ (i1 : Nat) (M2 : Nat → Prop) (S2 : WS), ((i + 1 : Nat) : Int) = i1 ∧ i1 ≤ fn ∧ After M w b C S2 M2 w4 ∧ S2.nv = S.nv ∧ S2.rest = x17 ∧ (x17 = true → A = asm C S.nv (fs.drop i1) (· ∈ S2.tr) S2.st.length) ∧ (x17 = false → A = (none, S2.st.length))) ∧ (fn - ((i + 1 : Nat) : Int)).toNat < (fn - (i : Int)).toNat) := fun hs k2 => by
      refine cl_of ok10 (wa_run (h2.keep0 k2)) fun e w4 ⟨v4, M4, S4, he, hA4, g1, g2, g3, g4, g5, g6, g7⟩ => ⟨v4, he, ⟨i + 1, M4, S4, rfl, hlt, (hA2.keep0 k2).trans hA4, g1.trans f1, g3, fun hv => ?_, fun hv => ?_⟩, by omega⟩
      · rw [hA3]
        show asm C S.nv (x :: fs.drop (i + 1)) (· ∈ S2.tr) S2.st.length = _
        rw [asm, if_neg hs, g2]
        congr 1
        funext y
        refine propext ⟨fun hy => ((g6 hv).2 y).2 (Der.fact hy), fun hy => closed_der hclo.2 h2.at_.iv.wf.cons h0 (fun _ h => h) (((g6 hv).2 y).1 hy)⟩
      · exfalso
        have : v4 = true := g5.2 (closed_clash hclo.2 h2.at_.iv.wf.cons h0 (fun _ h => h))
        rw [this] at hv; cases hv
    rcases hh with ⟨_, hn, k2⟩ | ⟨_, _, hn, _⟩ | ⟨_, hn, _, hm, k2⟩ | ⟨_, hwi, _, hnm, M3, hA3'⟩
    · exact skip (fun h => hn (by rw [f1]; exact h.1)) k2
    · rw [f2] at hn; cases hn
    · exact skip (fun h => hm.elim h.2.1 h.2.2) k2
    · have hcond : Wi S.nv x ∧ x ∉ S2.tr ∧ -x ∉ S2.tr := ⟨by rw [← f1]; exact hwi, hnm⟩
      refine cl_of ok10 (wa_run hA3'.wa) fun e w4 ⟨v4, M4, S4, he, hA4, g1, g2, g3, g4, g5, g6, g7⟩ => ⟨v4, he, ⟨i + 1, M4, S4, rfl, hlt, (hA2.trans hA3').trans hA4, g1.trans f1, g3, fun hv => ?_, fun hv => ?_⟩, by omega⟩
      · have hv : v4 = true := hv
        have hK : (fun y => y ∈ S2.tr ∨ y = x) = (· ∈ S2.tr ++ [x]) := by funext y; simp
        have hncl : ¬ ClaP C (fun y => y ∈ S2.tr ∨ y = x) := by rw [hK, claP]; exact g5.1 hv
        rw [hA3]
        show asm C S.nv (x :: fs.drop (i + 1)) (· ∈ S2.tr) S2.st.length = _
        rw [asm, if_pos hcond, if_neg hncl, g2]
        show _ = asm C S.nv _ _ (S2.st ++ [S2.tr.length]).length
        rw [List.length_append, List.length_singleton]
        congr 1
        rw [hK]
        funext y
        exact propext (derP.trans ((g6 hv).2 y).symm)
      · have hv : v4 = false := hv
        have hK : (fun y => y ∈ S2.tr ∨ y = x) = (· ∈ S2.tr ++ [x]) := by funext y; simp
        have hcl : ClaP C (fun y => y ∈ S2.tr ∨ y = x) := by
          rw [hK, claP]
          apply Classical.byContradiction
          intro hn
          rw [g5.2 hn] at hv; cases hv
        rw [hA3]
        show asm C S.nv (x :: fs.drop (i + 1)) (· ∈ S2.tr) S2.st.length = _
        rw [asm, if_pos hcond, if_pos hcl, g2]
        show _ = (none, (S2.st ++ [S2.tr.length]).length)
        rw [List.length_append, List.length_singleton]
  · cases v2 with
    | false =>
      refine pif_t rfl ⟨false, none, 0, 0, rfl, M2, S2, hA2, ?_, ?_, [], ⟨rfl, fun i x hx => by simp at hx⟩, by omega, (fun j ⟨a, hh, _⟩ => by cases hh), fun _ => rfl, fun K hK => ?_⟩
      · rw [f4 rfl]
      · rw [f4 rfl]; rfl
      · rw [f4 rfl] at hK; cases hK
    | true =>
      have hge : i = fn := by simp at hq; omega
      refine pif_f rfl ?_
      refine cl_of ok21 (wa_lits h2) fun e w5 ⟨v5, L, he, hT, p5, c5, hv5, hO5, hf5, k5⟩ => ⟨p5, L.length, c5, by rw [he, hv5], ?_⟩
      have hA3 := f3 rfl
      rw [hge, ← hlen, List.drop_length] at hA3
      have hA3' : A = (some (· ∈ S2.tr), S2.st.length) := hA3
      refine ⟨true, p5, L.length, c5, rfl, M2, S2, hA2.keep0 k5, ?_, ?_, L, own_rdl hO5, hT.len, fun j hj => ⟨?_, hO5.lt j hj, fun hm => ?_⟩, fun hn => ?_, fun K hK => ?_⟩
      · rw [hA3']
      · rw [hA3']; rfl
      · have := hf5 j hj; have := hA2.kp.size; omega
      · have := hf5 j hj; have := h2.lt j hm; omega
      · rw [hA3'] at hn; cases hn
      · rw [hA3'] at hK
        injection hK with hK
        rw [← hK]; exact hT
end Go.Proofs.Ytjpblaenebodlaa.Wt
