/- WatchRoads: the law. -/
import Derived.Test.YtjpblaenebodlaaMWRoad
set_option linter.unusedVariables false
set_option linter.unusedSimpArgs false
set_option linter.unusedSectionVars false
set_option maxRecDepth 100000
namespace Go.Proofs.Ytjpblaenebodlaa.Wt
open Go Go.Proofs.Ytjpblaenebodlaa.Vc Go.Proofs.Ytjpblaenebodlaa.T
open Go.Proofs.Ytjpblaenebodlaa.Apart (RdL own_rdl wrap_nat getE own_len copy same take_snoc Sl sv New LL)
open Go.Proofs.Ytjpblaenebodlaa.Lits (fl fl_iff idx idx_inj idx_range Ans ans_of indexP formedP tidyP Td Srt)

open Classical in
theorem start_same {C C' : List (List Int)} (h : ∀ c, c ∈ C ↔ c ∈ C') (nv : Nat) (fs : List Int) {K K' : Int → Prop} (hK : ∀ x, K x → DerP C' K' x) (hK' : ∀ x, K' x → DerP C K x) :
    (if ClaP C K then ((none : Option (Int → Prop)), 0) else asm C nv fs (DerP C K) 0) = if ClaP C' K' then (none, 0) else asm C' nv fs (DerP C' K') 0 := by
  have e1 : ClaP C K = ClaP C' K' := propext ⟨fun hx => hx.cut (fun c => (h c).1) hK, fun hx => hx.cut (fun c => (h c).2) hK'⟩
  have e2 : DerP C K = DerP C' K' := funext fun x => propext ⟨fun hx => hx.cut (fun c => (h c).1) hK, fun hx => hx.cut (fun c => (h c).2) hK'⟩
  rw [e1, e2, asm_same h]
open Classical in
theorem law4 {w : World} {nv : Int} {p : Option Addr} {n c : Nat} {css : List (List Int)} (hC : Cl w p n c css) {fp : Option Addr} {fn fc : Nat} {fs : List Int} (hF : RdL w fp fn fs) (hfn : fn ≤ 17592186044416) (hfb : ∀ j, (∃ a, fp = some a ∧ a.block = j) → 0 < fn → j < w.heap.size) (l : Int) :
    Calls Try.prog 4 #[.agg #[I nv, .slice p n c], .slice fp fn fc, I l] w fun e w' => e = .returned (.bool true) ∧ RowKit.Below w.heap.size w w' := by
  refine (V4_calls nv p n c fp fn fc l w (fun v w' => v = .bool true ∧ Keep None w w') ?_).mono fun e w' ⟨v, he, hv, hk⟩ => ⟨by rw [he, hv], hk.below0⟩
  unfold V4
  have hnc := hC.nc; have hcl := hC.cl
  have hlen := hC.len
  have hcap : cap = 8796093022208 := rfl
  have hlo : ∀ es ∈ css, es.length ≤ 17592186044416 := fun es he => by have := (hC.ok es he).1; omega
  refine alc_at fun b2 w1 hb2 hB2 k1 => ?_
  refine ldI_of (x := nv) (by rw [add_mk]; exact hB2.cell 0) ?_
  refine ldC_of (x := p) (n := n) (c := c) (by rw [add_mk]; exact hB2.cell 1) ?_
  refine cl_of ok11 (copyF11 (hC.rdc.keep0 k1) (by omega) hlo) fun e w2 ⟨p', c', hs, he, hL, k2⟩ => ⟨nv, p', n, c', he, ?_⟩
  refine cl_of ok7 (wa_new (LLrdc (hL.mono (M' := fun i => i < w2.heap.size) fun i h _ => h)) (fun i h => h) (by omega) hlo) fun e w3 ⟨q3, v3, he, hN⟩ => ⟨q3, v3, he, ?_⟩
  rcases hN with ⟨rfl, rfl, _, k3⟩ | ⟨b, M, S, rfl, rfl, hf, hA, hM, k3, n1, n2, n3, n4, n5⟩
  · exact pif_t rfl ⟨rfl, (k1.then0 k2).then0 k3⟩
  refine pif_f rfl ?_
  have s1 := k1.size; have s2 := k2.size; have s3 := k3.size
  have l2 := hB2.lt
  refine ldI_of (x := nv) (by rw [add_mk]; exact ((hB2.keep0 k2).keep0 k3).cell 0) ?_
  refine cl_of ok7 (wa_new (rdc_nil (fun _ => False) w3 none) (fun i h => h.elim) (Nat.zero_le _) (fun es h => by cases h)) fun e w4 ⟨q4, v4, he, hN⟩ => ⟨q4, v4, he, ?_⟩
  rcases hN with ⟨_, _, hn, _⟩ | ⟨b', N0, S0, rfl, rfl, _, hA0, hN0, k4, m1, m2, m3, m4, m5⟩
  · exact absurd ⟨hf.1, hf.2.1, fun c hc => by cases hc⟩ hn
  have s4 := k4.size
  refine gd_t rfl (cl_of ok10 (wa_run hA0) fun e w5 ⟨v5, N1, S1, he, hA1, e1, e2, e3, e4, e5, e6, e7⟩ => ⟨v5, he, ?_⟩)
  obtain rfl : v5 = true := e5.2 fun ⟨c, hc, _⟩ => by cases hc
  refine pif_f rfl ?_
  have hN1 : ∀ i, N1 i → w3.heap.size ≤ i := fun i hi => by
    rcases hA1.gr i hi with h | h
    · exact hN0 i h
    · omega
  have k14 : Keep None w1 w4 := ((k2.trans k3 fun _ _ h => h).trans k4 fun _ _ h => h)
  have k15 : Keep None w1 w5 := k14.trans hA1.kp fun i hi h => by have := hN0 i h; omega
  have hB5 := hB2.keep0 k15
  have hA5 : Wa M w5 b css S := (hA.keep0 k4).keep hA1.kp fun i hi hm => by have := hN0 i hi; have := hA.lt i hm; omega
  refine ldC_of (x := p) (n := n) (c := c) (by rw [add_mk]; exact hB5.cell 1) ?_
  have ew : IntKind.wrap .i64 ((n : Int) - 1) = (n : Int) - 1 := by rw [IntKind.wrap_i64]; omega
  rw [ew]
  refine lp_of (fun s W => ∃ (k : Nat) (N : Nat → Prop) (S2 : WS), s.1 = (k : Int) - 1 ∧ k ≤ n ∧ Wa N W b' (css.drop k).reverse S2 ∧ Wa M W b css S ∧ (∀ i, M i → ¬ N i) ∧ (∀ i, N i → w1.heap.size ≤ i) ∧ Keep None w1 W ∧ S2.st = [] ∧ S2.nv = nv.toNat ∧ ∀ x ∈ S2.tr, Der (css.drop k).reverse [] x)
    (fun s _ => (s.1 + 1).toNat) ⟨n, N1, S1, rfl, Nat.le_refl _, ?_, hA5, fun i hm hn => by have := hN1 i hn; have := hA.lt i hm; omega, fun i hi => by have := hN1 i hi; omega, k15, e2.trans m3, e1.trans m1, fun x hx => ?_⟩ ?_
  · rw [← hlen, List.drop_length]; exact hA1.wa
  · rw [← hlen, List.drop_length]
    have := ((e6 rfl).2 x).1 hx
    rw [m2] at this; exact this
  rintro ⟨v, ⟨⟩⟩ W ⟨k, N, S2, hv, hk, hWb, hWa, hd, hNf, kW, hst, hnv, hder⟩
  simp only [] at hv ⊢
  subst hv
  have hBW := hB2.keep0 kW
  refine pif_of (fun hq => ?_) fun hq => ?_
  · obtain ⟨k0, rfl⟩ : ∃ k0, k = k0 + 1 := ⟨k - 1, by have := of_decide_eq_true hq; omega⟩
    have ek : ((k0 + 1 : Nat) : Int) - 1 = (k0 : Nat) := by omega
    rw [ek]
    generalize hCk : (css.drop (k0 + 1)).reverse = C at hWb hder
    obtain ⟨es, hes⟩ := getE (show k0 < css.length by omega)
    have hmm := List.mem_of_getElem? hes
    have hCn : (css.drop k0).reverse = C ++ [es] := by
      obtain ⟨h1, h2⟩ := List.getElem?_eq_some_iff.1 hes
      rw [← hCk, List.drop_eq_getElem_cons h1, h2, List.reverse_cons]
    refine cl_of ok8 (wa_assume hWb l) fun e w8 ⟨x32, he, hh⟩ => ⟨x32, he, ?_⟩
    have hst3 : ∃ (N1 : Nat → Prop) (S3 : WS), After N W b' C S3 N1 w8 ∧ S3.nv = nv.toNat ∧ ((x32 = 0 ∧ S3.st = [S2.tr.length] ∧ S3.tr = S2.tr ++ [l]) ∨ (x32 ≠ 0 ∧ S3.st = [] ∧ S3.tr = S2.tr)) := by
      rcases hh with ⟨rfl, _, k8⟩ | ⟨rfl, _, _, k8⟩ | ⟨rfl, _, _, _, k8⟩ | ⟨rfl, _, _, _, N1, hA8⟩
      · exact ⟨N, S2, After.same hWb k8, hnv, Or.inr ⟨by decide, hst, rfl⟩⟩
      · exact ⟨N, S2, After.same hWb k8, hnv, Or.inr ⟨by decide, hst, rfl⟩⟩
      · exact ⟨N, S2, After.same hWb k8, hnv, Or.inr ⟨by decide, hst, rfl⟩⟩
      · exact ⟨N1, _, hA8, hnv, Or.inl ⟨rfl, by show S2.st ++ _ = _; rw [hst]; rfl, rfl⟩⟩
    obtain ⟨N3, S3, hA3, hnv3, hcase⟩ := hst3
    have fr : ∀ {N' : Nat → Prop} {W' : World} {Ca : List (List Int)} {Sa : WS}, After N W b' Ca Sa N' W' → (∀ i, N' i → w1.heap.size ≤ i) ∧ Keep None w1 W' ∧ Wa M W' b css S ∧ ∀ i, M i → ¬ N' i := fun {N'} {W'} {Ca} {Sa} hA => by
      have h1 : ∀ i, N' i → w1.heap.size ≤ i := fun i hi => by
        rcases hA.gr i hi with h | h
        · exact hNf i h
        · have := kW.size; omega
      obtain ⟨h2, h3⟩ := hA.other hWa fun i hn hm => hd i hm hn
      exact ⟨h1, kW.trans hA.kp fun i hi h => by have := hNf i h; omega, h2, fun i hm hn => h3 i hn hm⟩
    have k18 := (fr hA3).2.1
    refine ldC_of (x := p) (n := n) (c := c) (by rw [add_mk]; exact (hB2.keep0 k18).cell 1) ?_
    refine ((hC.rdc.keep0 k1).keep0 k18).ix hes fun a q2 m2 c2 ha hRd => ldC_of ha ?_
    refine cl_of ok13 (copy hRd (by rw [← hRd.len]; exact hlo es hmm)) fun e w9 ⟨v9, he, p9, c9, hv9, hO9, hf9, k9⟩ => ⟨p9, es.length, c9, by rw [he, hv9], ?_⟩
    refine cl_of ok12 (wa_add (hA3.wa.keep0 k9) (own_rdl hO9) (hlo es hmm) (by
      rw [hcap, ← hCk, List.length_reverse, List.length_drop]; omega)) fun e w10 hadd => ?_
    rcases hadd with ⟨_, hn, _⟩ | ⟨he, _, N4, S4, hA4, g1, g2, g3, g4, g5⟩
    · refine absurd (fun x hx => ?_) hn
      rw [hnv3]; exact hf.2.2 es hmm x hx
    refine ⟨0, he, pif_f rfl ?_⟩
    have hA34 : After N W b' (C ++ [es]) S4 N4 w10 := (hA3.keep0 k9).trans hA4
    refine cl_of ok10 (wa_run hA34.wa) fun e w11 ⟨v11, N5, S5, he, hA5r, f1, f2, f3, f4, f5, f6, f7⟩ => ⟨v11, he, ?_⟩
    have hA35 := hA34.trans hA5r
    have fin : ∀ {N6 : Nat → Prop} {S6 : WS} {w12 : World}, After N W b' (C ++ [es]) S6 N6 w12 → S6.nv = nv.toNat → S6.st = [] → (∀ x ∈ S6.tr, Der (C ++ [es]) [] x) →
        cl Try.prog 10 [.pointer (some ⟨b', 0, none⟩)] w12 fun e54 w14 => ∃ x53 : Bool, e54 = Ending.returned (.bool x53) ∧ ((∃ (k : Nat) (N : Nat → Prop) (S2 : WS), IntKind.wrap .i64 ((k0 : Int) - 1) = (k : Int) - 1 ∧ k ≤ n ∧ Wa N w14 b' (css.drop k).reverse S2 ∧ Wa M w14 b css S ∧ (∀ i, M i → ¬ N i) ∧ (∀ i, N i → w1.heap.size ≤ i) ∧ Keep None w1 w14 ∧ S2.st = [] ∧ S2.nv = nv.toNat ∧ ∀ x ∈ S2.tr, Der (css.drop k).reverse [] x) ∧ (IntKind.wrap .i64 ((k0 : Int) - 1) + 1).toNat < ((k0 : Int) + 1).toNat) := fun {N6} {S6} {w12} hA6 a1 a2 a3 => by
      have ew : IntKind.wrap .i64 ((k0 : Int) - 1) = (k0 : Int) - 1 := by rw [IntKind.wrap_i64]; omega
      rw [ew]
      refine cl_of ok10 (wa_run hA6.wa) fun e w14 ⟨v14, N7, S7, he, hA7, d1, d2, d3, d4, d5, d6, d7⟩ => ⟨v14, he, ⟨k0, N7, S7, rfl, by omega, ?_, (fr (hA6.trans hA7)).2.2.1, (fr (hA6.trans hA7)).2.2.2, (fr (hA6.trans hA7)).1, (fr (hA6.trans hA7)).2.1, d2.trans a2, d1.trans a1, fun x hx => ?_⟩, by omega⟩
      · rw [hCn]; exact hA7.wa
      · rw [hCn]
        cases v14 with
        | true => exact (((d6 rfl).2 x).1 hx).cut a3
        | false => rw [d7 rfl] at hx; exact a3 x hx
    rcases hcase with ⟨rfl, c1, c2⟩ | ⟨hne, c1, c2⟩
    · refine gd_t rfl ?_
      refine cl_of ok9 (wa_undo hA35.wa) fun e w12 hu => ?_
      rcases hu with ⟨_, hs0, _⟩ | ⟨he, st', s, N6, hs0, hA6⟩
      · rw [f2, g3, c1] at hs0; cases hs0
      · rw [f2, g3, c1] at hs0
        have hs1 : st' = [] ∧ s = S2.tr.length := by
          cases st' with
          | nil => simp at hs0; exact ⟨rfl, hs0.symm⟩
          | cons a st' => simp at hs0
        obtain ⟨rfl, rfl⟩ := hs1
        refine ⟨0, he, pif_f rfl ?_⟩
        refine fin (hA35.trans hA6) (f1.trans (g1.trans hnv3)) rfl fun x hx => ?_
        have hx' : x ∈ S5.tr.take S2.tr.length := hx
        have hpre : S5.tr.take S2.tr.length = S2.tr := by
          have hp : S2.tr <+: S5.tr := by
            cases v11 with
            | true => exact (show S2.tr <+: S4.tr by rw [g2, c2]; exact List.prefix_append _ _).trans (f6 rfl).1
            | false => rw [f7 rfl, g2, c2]; exact List.prefix_append _ _
          exact (List.prefix_iff_eq_take.1 hp).symm
        rw [hpre] at hx'
        exact (hder x hx').more (fun c hc => List.mem_append_left _ hc) (fun _ h => h)
    · refine gd_f (by simpa using hne) ?_
      refine pif_f (by rw [show (x32 == 0) = false by simpa using hne]; rfl) ?_
      refine fin hA35 (f1.trans (g1.trans hnv3)) (f2.trans (g3.trans c1)) fun x hx => ?_
      have old : ∀ y ∈ S4.tr, Der (C ++ [es]) [] y := fun y hy => by
        rw [g2, c2] at hy
        exact (hder y hy).more (fun c hc => List.mem_append_left _ hc) (fun _ h => h)
      cases v11 with
      | true => exact (((f6 rfl).2 x).1 hx).cut old
      | false => rw [f7 rfl] at hx; exact old x hx
  · have hk0 : k = 0 := by have := of_decide_eq_false hq; omega
    subst hk0
    rw [List.drop_zero] at hWb hder
    refine cl_of ok14 (wa_depth hWb) fun e w15 ⟨he, k15'⟩ => ⟨_, he, ?_⟩
    refine pif_f (by rw [hst]; rfl) ?_
    have kF : Keep None w W := k1.then0 kW
    have kF15 : Keep None w w15 := kF.then0 k15'
    have hMf : ∀ i, M i → w.heap.size ≤ i := fun i hi => by have := hM i hi; omega
    have hF15 := hF.keep0 kF15
    refine cl_of ok15 (assumed15 (hWa.keep0 k15') hF15 hfn fun j hj h0 => ⟨fun hm => by have := hfb j hj h0; have := hMf j hm; omega, by have := hfb j hj h0; have := kF15.size; omega⟩) fun e w16 ⟨r1, p1, n1', c1, he, M2, T1, hB1, d1, d2, L1, hL1, hn1, hf1, hnil1, htd1⟩ => ⟨r1, p1, n1', c1, he, ?_⟩
    obtain ⟨hWb2, hdis⟩ := hB1.other (hWb.keep0 k15') hd
    have hNf2 : ∀ i, N i → w.heap.size ≤ i := fun i hi => by have := hNf i hi; omega
    have kF16 : Keep None w w16 := kF15.trans hB1.kp fun i hi h => by have := hMf i h; omega
    have hF16 := hF.keep0 kF16
    refine cl_of ok15 (assumed15 hWb2 hF16 hfn fun j hj h0 => ⟨fun hm => by have := hfb j hj h0; have := hNf2 j hm; omega, by have := hfb j hj h0; have := kF16.size; omega⟩) fun e w17 ⟨r2, p2, n2', c2, he, N2, T2, hB2', t1, t2, L2, hL2, hn2, hf2, hnil2, htd2⟩ => ⟨r2, p2, n2', c2, he, ?_⟩
    have kF17 : Keep None w w17 := kF16.trans hB2'.kp fun i hi h => by have := hNf2 i h; omega
    obtain ⟨hWa3, hdis3⟩ := hB2'.other hB1.wa fun i hn hm => hdis i hm hn
    have hnvS : S.nv = S2.nv := n1.trans hnv.symm
    have hsame := start_same (C := css) (C' := css.reverse) (fun c => List.mem_reverse.symm) S.nv fs (K := (· ∈ S.tr)) (K' := (· ∈ S2.tr)) (fun x hx => by rw [n2] at hx; cases hx) (fun x hx => by
      have h1 := (hder x hx).more (C' := css) (K' := S.tr) (fun c hc => List.mem_reverse.1 hc) (fun _ h => by cases h)
      exact derP.2 h1)
    rw [show S.st.length = 0 by rw [n3]; rfl] at d1 d2 hnil1 htd1
    rw [show S2.st.length = 0 by rw [hst]; rfl, ← hnvS, ← hsame] at t1 t2 hnil2 htd2
    have hr : r1 = r2 := d2.trans t2.symm
    subst hr
    have hLL : L1 = L2 := by
      cases hA : (if ClaP css (· ∈ S.tr) then ((none : Option (Int → Prop)), 0) else asm css S.nv fs (DerP css (· ∈ S.tr)) 0).1 with
      | none => rw [hnil1 hA, hnil2 hA]
      | some K => exact (htd1 K hA).uniq (htd2 K hA) fun x _ => Iff.rfl
    subst hLL
    have er : (r1 == r1) = true := by cases r1 <;> rfl
    refine gd_t er ?_
    have hL1' := hL1.keep hB2'.kp fun j hj hn => by have := (hf1 j hj).1; have := hWb.lt j hn; have := k15'.size; omega
    refine cl_of ok16 (same hL1' hL2 (by omega)) fun e w18 ⟨he, k18⟩ => ⟨_, he, ?_⟩
    have ed : decide (L1 = L1) = true := decide_eq_true rfl
    rw [er, ed]
    refine gd_t rfl (cl_of ok14 (wa_depth (hB2'.wa.keep0 k18)) fun e w20 ⟨he, k20⟩ => ⟨_, he, ?_⟩)
    refine gd_t rfl (cl_of ok14 (wa_depth ((hWa3.keep0 k18).keep0 k20)) fun e w22 ⟨he, k22⟩ => ⟨_, he, ?_⟩)
    refine ⟨?_, ((kF17.then0 k18).then0 k20).then0 k22⟩
    rw [d1, t1]
    simp
end Go.Proofs.Ytjpblaenebodlaa.Wt

/- The document's Watch: the functions that it goes by. -/
set_option linter.unusedVariables false
set_option linter.unusedSimpArgs false
set_option linter.unusedSectionVars false
set_option maxRecDepth 100000
namespace Go.Proofs.Ytjpblaenebodlaa.Wt
open Go Go.Proofs.Ytjpblaenebodlaa.Vc Go.Proofs.Ytjpblaenebodlaa.T
open Go.Proofs.Ytjpblaenebodlaa.Apart (RdL own_rdl wrap_nat getE own_len copy same take_snoc Sl sv New LL)
open Go.Proofs.Ytjpblaenebodlaa.Lits (fl fl_iff idx idx_inj idx_range Ans ans_of indexP formedP tidyP Td Srt)

section
variable {w : World} {p : Option Addr} {n c : Nat} {cs : List Int}
theorem fm68 (l : Int) (w : World) : Calls Try.prog 68 #[I l] w fun e w' => e = .returned (.bool (fl l)) ∧ Keep None w w' := by
  refine ans_of (V68_calls l w (Ans w _) ?_)
  unfold V68
  refine ⟨?_, Keep.refl _ _⟩
  congr 1
  by_cases h : fl l = true
  · have := fl_iff.1 h
    rw [h]
    by_cases h1 : 1 ≤ l
    · have e1 : decide (l ≥ 1) = true := decide_eq_true h1
      have e2 : decide (l ≤ 1048576) = true := decide_eq_true (by omega)
      rw [e1, e2]; rfl
    · have e1 : decide (l ≥ 1) = false := decide_eq_false (by omega)
      have e2 : decide (l ≥ -1048576) = true := decide_eq_true (by omega)
      have e3 : decide (l ≤ -1) = true := decide_eq_true (by omega)
      rw [e1, e2, e3]; rfl
  · have hn : ¬ (l ≠ 0 ∧ -1048576 ≤ l ∧ l ≤ 1048576) := fun hh => h (fl_iff.2 hh)
    have hf : fl l = false := by simpa using h
    rw [hf]
    by_cases h1 : 1 ≤ l
    · have e1 : decide (l ≥ 1) = true := decide_eq_true h1
      have e2 : decide (l ≤ 1048576) = false := decide_eq_false (by omega)
      have e3 : decide (l ≤ -1) = false := decide_eq_false (by omega)
      rw [e1, e2, e3]
      cases decide (l ≥ -1048576) <;> rfl
    · have e1 : decide (l ≥ 1) = false := decide_eq_false (by omega)
      rw [e1]
      by_cases h2 : l ≤ -1
      · have e2 : decide (l ≥ -1048576) = false := decide_eq_false (by omega)
        rw [e2]; rfl
      · have e3 : decide (l ≤ -1) = false := decide_eq_false (by omega)
        rw [e3]
        cases decide (l ≥ -1048576) <;> rfl
theorem sound65 (hR : RdL w p n cs) (hn : n ≤ 17592186044416) :
    Calls Try.prog 65 #[.slice p n c] w fun e w' => ∃ r : Bool, e = .returned (.bool r) ∧ (r = true ↔ ∀ x ∈ cs, fl x = true) ∧ Keep None w w' := by
  refine (V65_calls p n c w (fun v w' => ∃ r : Bool, v = .bool r ∧ (r = true ↔ ∀ x ∈ cs, fl x = true) ∧ Keep None w w') ?_).mono fun e w' ⟨v, he, r, hv, hk⟩ => ⟨r, by rw [he, hv], hk⟩
  unfold V65
  have hll := hR.len
  refine lp_of (fun s W => ∃ i : Nat, s.1 = i ∧ i ≤ n ∧ Keep None w W ∧ ∀ x ∈ cs.take i, fl x = true) (fun s _ => (n - s.1).toNat) ⟨0, rfl, Nat.zero_le _, Keep.refl _ _, fun x hx => by simp at hx⟩ ?_
  rintro ⟨i', ⟨⟩⟩ W ⟨i, rfl, hi, kW, hv⟩
  simp only []
  refine pif_of (fun hlt => ?_) fun hge => ?_
  · have hlt : i < n := by simpa using hlt
    rw [wrap_nat i (by omega)]
    refine (hR.keep0 kW).ix hlt fun a x hx ha => ldI_of ha ?_
    refine cl_of ok68 (fm68 x W) fun e w2 ⟨he, k2⟩ => ⟨_, he, ?_⟩
    refine pif_of (fun hq => ⟨false, rfl, ⟨fun h => (by cases h), fun h => ?_⟩, kW.then0 k2⟩) fun hq => ?_
    · rw [h x (List.mem_of_getElem? hx)] at hq; cases hq
    · refine ⟨⟨i + 1, rfl, hlt, kW.then0 k2, fun y hy => ?_⟩, by omega⟩
      rw [take_snoc hx] at hy
      rcases List.mem_append.1 hy with hy | hy
      · exact hv y hy
      · rw [List.mem_singleton.1 hy]; simpa using hq
  · have hge : i = n := by simp at hge; omega
    subst hge
    rw [← hll, List.take_length] at hv
    exact ⟨true, rfl, ⟨fun _ => hv, fun _ => rfl⟩, kW⟩
theorem wi_fl2 {nv : Nat} (hnv : nv ≤ 1048576) {x : Int} (h : Wi nv x) : fl x = true := fl_iff.2 ⟨h.1, by have := h.2.1; omega, by have := h.2.2; omega⟩
theorem within64 (hR : RdL w p n cs) (hn : n ≤ 17592186044416) {nv : Nat} (hnv : nv ≤ 1048576) :
    Calls Try.prog 64 #[.slice p n c, I nv] w fun e w' => ∃ r : Bool, e = .returned (.bool r) ∧ (r = true ↔ ∀ x ∈ cs, Wi nv x) ∧ Keep None w w' := by
  refine (V64_calls p n c nv w (fun v w' => ∃ r : Bool, v = .bool r ∧ (r = true ↔ ∀ x ∈ cs, Wi nv x) ∧ Keep None w w') ?_).mono fun e w' ⟨v, he, r, hv, hk⟩ => ⟨r, by rw [he, hv], hk⟩
  unfold V64
  have hll := hR.len
  refine cl_of ok65 (sound65 hR hn) fun e w1 ⟨r, he, hr, k1⟩ => ⟨r, he, ?_⟩
  refine pif_of (fun hq => ⟨false, rfl, ⟨fun h => (by cases h), fun h => ?_⟩, k1⟩) fun hq => ?_
  · rw [hr.2 fun x hx => wi_fl2 hnv (h x hx)] at hq; cases hq
  have hfl := hr.1 (by simpa using hq)
  refine lp_of (fun s W => ∃ i : Nat, s.1 = i ∧ i ≤ n ∧ Keep None w W ∧ ∀ x ∈ cs.take i, Wi nv x) (fun s _ => (n - s.1).toNat) ⟨0, rfl, Nat.zero_le _, k1, fun x hx => by simp at hx⟩ ?_
  rintro ⟨i', ⟨⟩⟩ W ⟨i, rfl, hi, kW, hv⟩
  simp only []
  refine pif_of (fun hlt => ?_) fun hge => ?_
  · have hlt : i < n := by simpa using hlt
    rw [wrap_nat i (by omega)]
    refine (hR.keep0 kW).ix hlt fun a x hx ha => ldI_of ha ?_
    have hfx := fl_iff.1 (hfl x (List.mem_of_getElem? hx))
    have e1 : IntKind.wrap .i64 (0 - x) = -x := by rw [IntKind.wrap_i64]; omega
    have fin : ∀ b : Bool, (b = true ↔ ¬ Wi nv x) → pif b (∃ r : Bool, (Value.bool false : Value) = .bool r ∧ (r = true ↔ ∀ x ∈ cs, Wi nv x) ∧ Keep None w W)
        ((∃ i1 : Nat, ((i + 1 : Nat) : Int) = i1 ∧ i1 ≤ n ∧ Keep None w W ∧ ∀ x ∈ cs.take i1, Wi nv x) ∧ ((n : Int) - ((i + 1 : Nat) : Int)).toNat < ((n : Int) - (i : Int)).toNat) := fun b hb => by
      refine pif_of (fun hq => ⟨false, rfl, ⟨fun h => (by cases h), fun h => absurd (h x (List.mem_of_getElem? hx)) (hb.1 hq)⟩, kW⟩) fun hq => ?_
      refine ⟨⟨i + 1, rfl, hlt, kW, fun y hy => ?_⟩, by omega⟩
      rw [take_snoc hx] at hy
      rcases List.mem_append.1 hy with hy | hy
      · exact hv y hy
      · rw [List.mem_singleton.1 hy]
        apply Classical.byContradiction
        intro hn
        rw [hb.2 hn] at hq; cases hq
    by_cases hgt : x > (nv : Int)
    · have hd : decide (x > (nv : Int)) = true := decide_eq_true hgt
      rw [hd]
      exact gd_f rfl (gd_f rfl (fin true ⟨fun _ h => by have := h.2.2; omega, fun _ => rfl⟩))
    · have hd : decide (x > (nv : Int)) = false := decide_eq_false hgt
      rw [hd]
      refine gd_t rfl ((hR.keep0 kW).ix hlt fun a' x' hx' ha' => gd_t rfl (ldI_of ha' ?_))
      rw [hx] at hx'; injection hx' with hx'; subst hx'
      rw [e1]
      refine fin _ ⟨fun h hw => ?_, fun h => ?_⟩
      · have : -x > (nv : Int) := of_decide_eq_true h
        have := hw.2.1; omega
      · refine decide_eq_true ?_
        apply Classical.byContradiction
        intro hle
        exact h ⟨hfx.1, by omega, by omega⟩
  · have hge : i = n := by simp at hge; omega
    subst hge
    rw [← hll, List.take_length] at hv
    exact ⟨true, rfl, ⟨fun _ => hv, fun _ => rfl⟩, kW⟩
theorem var66 {l : Int} (hl : fl l = true) (w : World) : Calls Try.prog 66 #[I l] w fun e w' => e = .returned (I (l.natAbs : Nat)) ∧ Keep None w w' := by
  refine ans_of (V66_calls l w (Ans w _) ?_)
  unfold V66
  have hf := fl_iff.1 hl
  refine cl_of ok68 (fm68 l w) fun e w1 ⟨he, k1⟩ => ⟨_, he, ?_⟩
  rw [hl]
  refine pif_f rfl (pif_of (fun hq => ?_) fun hq => ?_)
  · have hq : l < 0 := by simpa using hq
    refine ⟨?_, k1⟩
    rw [IntKind.wrap_i64]
    congr 2
    omega
  · have hq : ¬ l < 0 := by simpa using hq
    refine ⟨?_, k1⟩
    congr 2
    omega
theorem has53 (hR : RdL w p n cs) (hn : n ≤ 17592186044416) (l : Int) :
    Calls Try.prog 53 #[.slice p n c, I l] w fun e w' => ∃ r : Bool, e = .returned (.bool r) ∧ (r = true ↔ l ∈ cs) ∧ Keep None w w' := by
  refine (V53_calls p n c l w (fun v w' => ∃ r : Bool, v = .bool r ∧ (r = true ↔ l ∈ cs) ∧ Keep None w w') ?_).mono fun e w' ⟨v, he, r, hv, hk⟩ => ⟨r, by rw [he, hv], hk⟩
  unfold V53
  have hll := hR.len
  refine lp_of (fun s W => ∃ i : Nat, s.1 = i ∧ i ≤ n ∧ Keep None w W ∧ ∀ x ∈ cs.take i, x ≠ l) (fun s _ => (n - s.1).toNat) ⟨0, rfl, Nat.zero_le _, Keep.refl _ _, fun x hx => by simp at hx⟩ ?_
  rintro ⟨i', ⟨⟩⟩ W ⟨i, rfl, hi, kW, hv⟩
  simp only []
  refine pif_of (fun hlt => ?_) fun hge => ?_
  · have hlt : i < n := by simpa using hlt
    rw [wrap_nat i (by omega)]
    refine (hR.keep0 kW).ix hlt fun a x hx ha => ldI_of ha ?_
    refine pif_of (fun hq => ⟨true, rfl, ⟨fun _ => ?_, fun _ => rfl⟩, kW⟩) fun hq => ?_
    · have : x = l := by simpa using hq
      rw [← this]; exact List.mem_of_getElem? hx
    · refine ⟨⟨i + 1, rfl, hlt, kW, fun y hy => ?_⟩, by omega⟩
      rw [take_snoc hx] at hy
      rcases List.mem_append.1 hy with hy | hy
      · exact hv y hy
      · rw [List.mem_singleton.1 hy]; simpa using hq
  · have hge : i = n := by simp at hge; omega
    subst hge
    rw [← hll, List.take_length] at hv
    exact ⟨false, rfl, ⟨fun h => (by cases h), fun h => absurd rfl (hv l h)⟩, kW⟩
end
theorem formed50 {B : Nat → Prop} {w : World} {nv : Int} {p : Option Addr} {n c : Nat} {css : List (List Int)} (hC : RdC B w p n css) (hn : n ≤ 17592186044416) (hl : ∀ es ∈ css, es.length ≤ 17592186044416) :
    Calls Try.prog 50 #[.agg #[I nv, .slice p n c]] w fun e w' => ∃ r : Bool, e = .returned (.bool r) ∧ (r = true ↔ FormedF nv css) ∧ Keep None w w' := by
  refine (V50_calls nv p n c w (fun v w' => ∃ r : Bool, v = .bool r ∧ (r = true ↔ FormedF nv css) ∧ Keep None w w') ?_).mono fun e w' ⟨v, he, r, hv, hk⟩ => ⟨r, by rw [he, hv], hk⟩
  unfold V50
  have hll := hC.len
  refine alc_at fun b2 w1 hb2 hB2 k1 => ?_
  refine ldI_of (x := nv) (by rw [add_mk]; exact hB2.cell 0) ?_
  have cont : nv < 0 ∨ nv > 1048576 → ¬ FormedF nv css := fun h hf => by obtain ⟨a, b, _⟩ := hf; omega
  refine gd_of (fun h => ?_) fun h => ?_
  · have h0 : ¬ nv < 0 := by simpa using h
    have hd : decide (nv < 0) = false := decide_eq_false h0
    refine ldI_of (x := nv) (by rw [add_mk]; exact hB2.cell 0) ?_
    rw [hd]
    refine pif_of (fun hq => ⟨false, rfl, ⟨fun hh => (by cases hh), fun hh => absurd hh (cont (Or.inr (by simpa using hq)))⟩, k1⟩) fun hq => ?_
    have hle : nv ≤ 1048576 := by have : ¬ nv > 1048576 := by simpa using hq
                                  omega
    obtain ⟨m, rfl⟩ := Int.eq_ofNat_of_zero_le (show 0 ≤ nv by omega)
    refine lp_of (fun s W => ∃ i : Nat, s.1 = (i : Int) ∧ i ≤ n ∧ Keep None w1 W ∧ ∀ es ∈ css.take i, ∀ x ∈ es, Wi m x) (fun s _ => (n - s.1).toNat) ⟨0, rfl, Nat.zero_le _, Keep.refl _ _, fun x hx => by simp at hx⟩ ?_
    rintro ⟨i', ⟨⟩⟩ W ⟨i, rfl, hi, kW, hv⟩
    simp only [] at hv ⊢
    refine ldC_of (x := p) (n := n) (c := c) (by rw [add_mk]; exact (hB2.keep0 kW).cell 1) ?_
    refine pif_of (fun hlt => ?_) fun hge => ?_
    · have hlt : i < n := by simpa using hlt
      rw [wrap_nat i (by omega)]
      obtain ⟨es, hes⟩ := getE (show i < css.length by omega)
      have hm := List.mem_of_getElem? hes
      refine ldC_of (x := p) (n := n) (c := c) (by rw [add_mk]; exact (hB2.keep0 kW).drew.cell 1) ?_
      refine (((hC.keep0 k1).keep0 kW).keep0 (Keep.refl _ _).drew).ix hes fun a q k cc ha hRd => ldC_of ha (ldI_of (x := (m : Nat)) (by rw [add_mk]; exact (hB2.keep0 kW).drew.cell 0) ?_)
      refine cl_of ok64 (within64 hRd (by rw [← hRd.len]; exact hl es hm) (nv := m) (by omega)) fun e w3 ⟨r, he, hr, k3⟩ => ⟨r, he, ?_⟩
      have kd : Keep None w1 w3 := kW.drew.then0 k3
      refine pif_of (fun hq => ⟨false, rfl, ⟨fun hh => (by cases hh), fun hh => ?_⟩, k1.then0 kd⟩) fun hq => ?_
      · rw [hr.2 (hh.2.2 es hm)] at hq; cases hq
      · refine ⟨⟨i + 1, rfl, hlt, kd, fun y hy => ?_⟩, by omega⟩
        rw [List.take_add_one, hes] at hy
        rcases List.mem_append.1 hy with hy | hy
        · exact hv y hy
        · rw [List.mem_singleton.1 hy]; exact hr.1 (by simpa using hq)
    · have hge : i = n := by simp at hge; omega
      subst hge
      rw [← hll, List.take_length] at hv
      exact ⟨true, rfl, ⟨fun _ => ⟨by omega, hle, hv⟩, fun _ => rfl⟩, k1.then0 kW⟩
  · have h0 : nv < 0 := by simpa using h
    exact pif_t (by rw [decide_eq_true h0]; rfl) ⟨false, rfl, ⟨fun hh => (by cases hh), fun hh => absurd hh (cont (Or.inl h0))⟩, k1⟩
end Go.Proofs.Ytjpblaenebodlaa.Wt

/- The document's closing: values, rounds. -/
set_option linter.unusedVariables false
set_option linter.unusedSimpArgs false
set_option linter.unusedSectionVars false
set_option maxRecDepth 100000
namespace Go.Proofs.Ytjpblaenebodlaa.Wt
open Go Go.Proofs.Ytjpblaenebodlaa.Vc Go.Proofs.Ytjpblaenebodlaa.T
open Go.Proofs.Ytjpblaenebodlaa.Apart (RdL own_rdl wrap_nat getE own_len copy same take_snoc Sl sv New LL)
open Go.Proofs.Ytjpblaenebodlaa.Lits (fl fl_iff idx idx_inj idx_range Ans ans_of indexP formedP tidyP Td Srt)

section
variable {w : World} {p : Option Addr} {n c : Nat} {cs : List Int}
/-- the greatest variable, or what is above -/
theorem great94 (hR : RdL w p n cs) (hn : n ≤ 17592186044416) (hf : ∀ x ∈ cs, fl x = true) {a : Nat} (ha : a ≤ 1048576) :
    Calls Try.prog 94 #[.slice p n c, I a] w fun e w' => ∃ g : Nat, e = .returned (I g) ∧ a ≤ g ∧ (∀ x ∈ cs, x.natAbs ≤ g) ∧ g ≤ 1048576 ∧ Keep None w w' := by
  refine (V94_calls p n c a w (fun v w' => ∃ g : Nat, v = I g ∧ a ≤ g ∧ (∀ x ∈ cs, x.natAbs ≤ g) ∧ g ≤ 1048576 ∧ Keep None w w') ?_).mono fun e w' ⟨v, he, g, hv, hk⟩ => ⟨g, by rw [he, hv], hk⟩
  unfold V94
  have hll := hR.len
  refine lp_of (fun s W => ∃ (i g : Nat), s.1 = (g : Int) ∧ s.2.1 = i ∧ i ≤ n ∧ Keep None w W ∧ a ≤ g ∧ g ≤ 1048576 ∧ ∀ x ∈ cs.take i, x.natAbs ≤ g) (fun s _ => (n - s.2.1).toNat) ⟨0, a, rfl, rfl, Nat.zero_le _, Keep.refl _ _, Nat.le_refl _, ha, fun x hx => by simp at hx⟩ ?_
  rintro ⟨g', i', ⟨⟩⟩ W ⟨i, g, hg, hi', hi, kW, hag, hgb, hv⟩
  simp only [] at hg hi' ⊢
  subst hg; subst hi'
  refine pif_of (fun hlt => ?_) fun hge => ?_
  · have hlt : i < n := by simpa using hlt
    rw [wrap_nat i (by omega)]
    obtain ⟨x, hx⟩ := getE (show i < cs.length by omega)
    have hfx := fl_iff.1 (hf x (List.mem_of_getElem? hx))
    have e1 : IntKind.wrap .i64 (0 - x) = -x := by rw [IntKind.wrap_i64]; omega
    have rd : ∀ {K : Addr → Prop}, (∀ a, W.cell? a = some (I x) → K a) → ixA p n (i : Int) 1 K := fun {K} hK => (hR.keep0 kW).ix hlt fun a y hy ha => by
      rw [hx] at hy; injection hy with hy; subst hy; exact hK a ha
    refine ⟨fun s W' => ∃ g2 : Nat, s.1 = (g2 : Int) ∧ W' = W ∧ a ≤ g2 ∧ g2 ≤ 1048576 ∧ (∀ y ∈ cs.take i, y.natAbs ≤ g2) ∧ x.natAbs ≤ g2, ?_, ?_⟩
    · refine ⟨fun s W' => ∃ g1 : Nat, s.1 = (g1 : Int) ∧ W' = W ∧ a ≤ g1 ∧ g1 ≤ 1048576 ∧ (∀ y ∈ cs.take i, y.natAbs ≤ g1) ∧ x ≤ g1, ?_, ?_⟩
      · refine rd fun a1 h1 => ldI_of h1 (pif_of (fun hq => ?_) fun hq => ?_)
        · have hq : x > (g : Int) := of_decide_eq_true hq
          refine rd fun a2 h2 => ldI_of h2 ⟨x.natAbs, by simp only []; omega, rfl, by omega, by omega, fun y hy => by have := hv y hy; omega, by omega⟩
        · have hq : ¬ x > (g : Int) := of_decide_eq_false hq
          exact ⟨g, rfl, rfl, hag, hgb, hv, by omega⟩
      · rintro ⟨g1', ⟨⟩⟩ W' ⟨g1, h1, rfl, h3, h4, h5, h6⟩
        dsimp only at h1 ⊢
        subst h1
        refine rd fun a1 h1 => ldI_of h1 ?_
        rw [e1]
        refine pif_of (fun hq => ?_) fun hq => ?_
        · have hq : -x > (g1 : Int) := of_decide_eq_true hq
          refine rd fun a2 h2 => ldI_of h2 ?_
          rw [e1]
          exact ⟨x.natAbs, by omega, rfl, by omega, by omega, fun y hy => by have := h5 y hy; omega, by omega⟩
        · have hq : ¬ -x > (g1 : Int) := of_decide_eq_false hq
          exact ⟨g1, rfl, rfl, h3, h4, h5, by omega⟩
    · rintro ⟨g2', ⟨⟩⟩ W' ⟨g2, h1, rfl, h3, h4, h5, h6⟩
      simp only [] at h1 ⊢
      subst h1
      refine ⟨⟨i + 1, g2, rfl, rfl, hlt, kW, h3, h4, fun y hy => ?_⟩, by omega⟩
      rw [take_snoc hx] at hy
      rcases List.mem_append.1 hy with hy | hy
      · exact h5 y hy
      · rw [List.mem_singleton.1 hy]; exact h6
  · have hge : i = n := by simp at hge; omega
    subst hge
    rw [← hll, List.take_length] at hv
    exact ⟨g, rfl, hag, hv, hgb, kW⟩
end
/-- the values of variables up to top -/
def vI (top : Nat) (tr : List Int) : List Value := (List.range (top + 1)).map fun v => I (lv tr (v : Nat))
theorem vI_len (top : Nat) (tr : List Int) : (vI top tr).length = top + 1 := by simp [vI]
theorem vI_at {top v : Nat} {tr : List Int} (h : v ≤ top) : (vI top tr)[v]? = some (I (lv tr v)) := by simp [vI, show v < top + 1 by omega]
theorem vI_put {nv : Nat} {tr : List Int} {l : Int} (hn : lv tr l = 0) (hl : Wi nv l) : (vI nv tr).set l.natAbs (I (if l < 0 then -1 else 1)) = vI nv (tr ++ [l]) := by
  obtain ⟨h0, h1, h2⟩ := hl
  apply List.ext_getElem?
  intro i
  by_cases hi : i ≤ nv
  · rw [vI_at hi, List.getElem?_set, vI_len, lv_put hn h0]
    by_cases he : l.natAbs = i
    · rw [if_pos he, if_pos (by omega)]
      congr 2
      by_cases hlt : l < 0
      · rw [if_pos hlt, if_neg (by omega), if_pos (by omega)]
      · rw [if_neg hlt, if_pos (by omega)]
    · rw [if_neg he, vI_at hi, if_neg (by omega), if_neg (by omega)]
  · rw [List.getElem?_eq_none (by rw [List.length_set, vI_len]; omega), List.getElem?_eq_none (by rw [vI_len]; omega)]
abbrev Vs (b top : Nat) : Value := .slice (some ⟨b, 0, none⟩) (top + 1) (top + 1)
section
variable {w : World} {b top : Nat} {tr : List Int}
theorem value86 (hB : Blk w b (vI top tr) 3) (ht : top ≤ 1048576) (hc : Cons tr) {l : Int} (hl : Wi top l) :
    Calls Try.prog 86 #[Vs b top, I l] w fun e w' => e = .returned (I (lv tr l)) ∧ w' = w := by
  refine (V86_calls (some ⟨b, 0, none⟩) (top + 1) (top + 1) l w (fun v w' => v = I (lv tr l) ∧ w' = w) ?_).mono fun e w' ⟨v, he, hv, hk⟩ => ⟨by rw [he, hv], hk⟩
  unfold V86
  obtain ⟨h0, h1, h2⟩ := hl
  have e1 : IntKind.wrap .i64 (0 - l) = -l := by rw [IntKind.wrap_i64]; omega
  rw [e1]
  have rd : ∀ (v : Nat), v ≤ top → ∀ {K : Int → Prop}, K (lv tr v) → ixA (some ⟨b, 0, none⟩) (top + 1) (v : Int) 1 fun p => ldI .i64 w p K := fun v hv K hK => by
    refine ixA_of1 (by omega) (by omega) ?_
    rw [Int.toNat_natCast]
    exact ldI_of (by rw [hB.cell]; exact vI_at hv) hK
  refine pif_of (fun hlt => ?_) fun hge => ?_
  · have hlt : l < 0 := by simpa using hlt
    refine pif_t (decide_eq_true (by omega)) ?_
    have e2 : -l = (((-l).toNat : Nat) : Int) := by omega
    rw [e2]
    refine rd _ (by omega) ⟨?_, rfl⟩
    rw [← e2, lv_neg hc]
    congr 1
    have := lv_cases tr l
    rw [IntKind.wrap_i64]; omega
  · have hge : ¬ l < 0 := by simpa using hge
    refine pif_t (decide_eq_true (by omega)) ?_
    have e2 : l = ((l.toNat : Nat) : Int) := by omega
    have h3 : ixA (some ⟨b, 0, none⟩) (top + 1) ((l.toNat : Nat) : Int) 1 fun p => ldI .i64 w p fun x => (Value.int .i64 x = I (lv tr ((l.toNat : Nat) : Int))) ∧ w = w := rd _ (by omega) ⟨rfl, rfl⟩
    rw [← e2] at h3
    exact h3
theorem put87 (hB : Blk w b (vI top tr) 3) (ht : top ≤ 1048576) {l : Int} (hl : Wi top l) (hn : lv tr l = 0) :
    Calls Try.prog 87 #[Vs b top, I l] w fun e w' => e = .returned (.tuple #[]) ∧ Blk w' b (vI top (tr ++ [l])) 3 ∧ Keep (One b) w w' := by
  refine (V87_calls (some ⟨b, 0, none⟩) (top + 1) (top + 1) l w (fun v w' => v = .tuple #[] ∧ Blk w' b (vI top (tr ++ [l])) 3 ∧ Keep (One b) w w') ?_).mono fun e w' ⟨v, he, hv, hk⟩ => ⟨by rw [he, hv], hk⟩
  unfold V87
  have hp := vI_put hn hl
  obtain ⟨h0, h1, h2⟩ := hl
  have e1 : IntKind.wrap .i64 (0 - l) = -l := by rw [IntKind.wrap_i64]; omega
  rw [e1]
  by_cases hlt : l < 0
  · have d1 : decide (l < 0) = true := decide_eq_true hlt
    have d2 : decide (-l < ((top + 1 : Nat) : Int)) = true := decide_eq_true (by omega)
    have d3 : decide (l ≥ 0) = false := decide_eq_false (by omega)
    rw [d1, d2, d3]
    refine ⟨fun _ W => Blk W b (vI top (tr ++ [l])) 3 ∧ Keep (One b) w W, pif_t rfl ?_, ?_⟩
    · have e2 : -l = ((l.natAbs : Nat) : Int) := by omega
      rw [e2]
      refine ixA_of1 (by omega) (by omega) ?_
      rw [Int.toNat_natCast, add_mk, Nat.add_zero]
      refine st_of hB (by rw [vI_len]; omega) rfl fun w' hB' k _ => ⟨?_, k⟩
      rw [if_pos hlt] at hp
      rw [← hp]; exact hB'
    · rintro ⟨⟩ W ⟨hW, k⟩
      exact pif_f rfl ⟨rfl, hW, k⟩
  · have d1 : decide (l < 0) = false := decide_eq_false hlt
    have d2 : decide (l < ((top + 1 : Nat) : Int)) = true := decide_eq_true (by omega)
    have d3 : decide (l ≥ 0) = true := decide_eq_true (by omega)
    rw [d1, d2, d3]
    refine ⟨fun _ W => W = w, pif_f rfl rfl, ?_⟩
    rintro ⟨⟩ W rfl
    refine pif_t rfl ?_
    have e2 : l = ((l.natAbs : Nat) : Int) := by omega
    have key : ixA (some ⟨b, 0, none⟩) (top + 1) ((l.natAbs : Nat) : Int) 1 fun p8 => Vc.st W (p8.add 0) (.int .i64 1) fun w3 => (Value.tuple #[] : Value) = .tuple #[] ∧ Blk w3 b (vI top (tr ++ [l])) 3 ∧ Keep (One b) W w3 := by
      refine ixA_of1 (by omega) (by omega) ?_
      rw [Int.toNat_natCast, add_mk, Nat.add_zero]
      refine st_of hB (by rw [vI_len]; omega) rfl fun w' hB' k _ => ⟨rfl, ?_, k⟩
      rw [if_neg hlt] at hp
      rw [← hp]; exact hB'
    rw [← e2] at key
    exact key
/-- how a clause stands -/
def Stand (tr c : List Int) (k l : Int) : Prop :=
  (k = 1 ∧ l = 0 ∧ ∃ x ∈ c, x ∈ tr) ∨ (k = 0 ∧ l = 0 ∧ ∃ x ∈ c, ∃ y ∈ c, x ≠ y ∧ lv tr x = 0 ∧ lv tr y = 0) ∨ (k = 2 ∧ l = 0 ∧ ∀ x ∈ c, lv tr x = -1) ∨ (k = 3 ∧ l ∈ c ∧ lv tr l = 0 ∧ ∀ x ∈ c, x = l ∨ lv tr x = -1)
theorem stands88 (hB : Blk w b (vI top tr) 3) (ht : top ≤ 1048576) (hc : Cons tr) {p : Option Addr} {n c : Nat} {cs : List Int} (hR : RdL w p n cs) (hn : n ≤ 17592186044416) (hw : ∀ x ∈ cs, Wi top x) :
    Calls Try.prog 88 #[.slice p n c, Vs b top] w fun e w' => ∃ k l : Int, e = .returned (.tuple #[I k, I l]) ∧ Stand tr cs k l ∧ w' = w := by
  refine (V88_calls p n c (some ⟨b, 0, none⟩) (top + 1) (top + 1) w (fun v w' => ∃ k l : Int, v = .tuple #[I k, I l] ∧ Stand tr cs k l ∧ w' = w) ?_).mono fun e w' ⟨v, he, k, l, hv, hk⟩ => ⟨k, l, by rw [he, hv], hk⟩
  unfold V88
  have hll := hR.len
  refine lp_of (fun s W => ∃ (i : Nat) (o : Int), s.1 = o ∧ s.2.1 = i ∧ i ≤ n ∧ W = w ∧ ((o = 0 ∧ ∀ x ∈ cs.take i, lv tr x = -1) ∨ (o ≠ 0 ∧ o ∈ cs ∧ lv tr o = 0 ∧ ∀ x ∈ cs.take i, x = o ∨ lv tr x = -1))) (fun s _ => (n - s.2.1).toNat) ⟨0, 0, rfl, rfl, Nat.zero_le _, rfl, Or.inl ⟨rfl, fun x hx => by simp at hx⟩⟩ ?_
  rintro ⟨o, i', ⟨⟩⟩ W ⟨i, o2, ho, hi', hi, rfl, hv⟩
  dsimp only at ho hi' ⊢
  subst ho; subst hi'
  refine pif_of (fun hlt => ?_) fun hge => ?_
  · have hlt : i < n := by simpa using hlt
    rw [wrap_nat i (by omega)]
    obtain ⟨x, hx⟩ := getE (show i < cs.length by omega)
    have hxm := List.mem_of_getElem? hx
    have hxw := hw x hxm
    have rd : ∀ {K : Addr → Prop}, (∀ a, W.cell? a = some (I x) → K a) → ixA p n (i : Int) 1 K := fun {K} hK => hR.ix hlt fun a y hy ha => by
      rw [hx] at hy; injection hy with hy; subst hy; exact hK a ha
    refine ⟨fun s W' => W' = W ∧ ((s.1 = 0 ∧ ∀ x ∈ cs.take (i + 1), lv tr x = -1) ∨ (s.1 ≠ 0 ∧ s.1 ∈ cs ∧ lv tr s.1 = 0 ∧ ∀ x ∈ cs.take (i + 1), x = s.1 ∨ lv tr x = -1)), ?_, ?_⟩
    · refine rd fun a1 h1 => ldI_of h1 ?_
      refine cl_of ok86 (value86 hB ht hc hxw) fun e W2 ⟨he, hW⟩ => ⟨_, he, ?_⟩
      rw [hW]
      rcases lv_cases tr x with h3 | h3 | h3
      · rw [h3]
        exact pif_t rfl ⟨1, 0, rfl, Or.inl ⟨rfl, rfl, x, hxm, lv_one.1 h3⟩, rfl⟩
      · rw [h3]
        refine pif_f rfl (gd_f rfl (gd_f rfl (pif_f rfl (pif_f rfl ⟨rfl, ?_⟩))))
        have tk : ∀ {P : Int → Prop}, (∀ y ∈ cs.take i, P y) → P x → ∀ y ∈ cs.take (i + 1), P y := fun {P} h h' y hy => by
          rw [take_snoc hx] at hy
          rcases List.mem_append.1 hy with hy | hy
          · exact h y hy
          · rw [List.mem_singleton.1 hy]; exact h'
        rcases hv with ⟨h4, h5⟩ | ⟨h4, h5, h6, h7⟩
        · exact Or.inl ⟨h4, tk h5 h3⟩
        · exact Or.inr ⟨h4, h5, h6, tk h7 (Or.inr h3)⟩
      · rw [h3]
        refine pif_f rfl ?_
        rcases hv with ⟨rfl, h5⟩ | ⟨h4, h5, h6, h7⟩
        · refine gd_f rfl (gd_f rfl (pif_f rfl (pif_t rfl (rd fun a2 h2 => ldI_of h2 ⟨rfl, Or.inr ⟨hxw.1, hxm, h3, fun y hy => ?_⟩⟩))))
          rw [take_snoc hx] at hy
          rcases List.mem_append.1 hy with hy | hy
          · exact Or.inr (h5 y hy)
          · exact Or.inl (List.mem_singleton.1 hy)
        · have ho : (o != 0) = true := by simpa using h4
          rw [ho]
          refine gd_t rfl (rd fun a2 h2 => gd_t rfl (ldI_of h2 ?_))
          refine pif_of (fun hq => ?_) fun hq => ?_
          · have hne : o ≠ x := by simpa using hq
            exact ⟨0, 0, rfl, Or.inr (Or.inl ⟨rfl, rfl, o, h5, x, hxm, hne, h6, h3⟩), rfl⟩
          · have heq : o = x := by simpa using hq
            refine pif_t rfl (rd fun a3 h8 => ldI_of h8 ⟨rfl, Or.inr ⟨hxw.1, hxm, h3, fun y hy => ?_⟩⟩)
            rw [take_snoc hx] at hy
            rcases List.mem_append.1 hy with hy | hy
            · rw [← heq]; exact h7 y hy
            · exact Or.inl (List.mem_singleton.1 hy)
    · rintro ⟨o2, ⟨⟩⟩ W' ⟨rfl, h2⟩
      exact ⟨⟨i + 1, o2, rfl, rfl, hlt, rfl, h2⟩, by omega⟩
  · have hge : i = n := by simp at hge; omega
    subst hge
    rw [← hll, List.take_length] at hv
    rcases hv with ⟨rfl, h5⟩ | ⟨h4, h5, h6, h7⟩
    · exact pif_t rfl ⟨2, 0, rfl, Or.inr (Or.inr (Or.inl ⟨rfl, rfl, h5⟩)), rfl⟩
    · exact pif_f (by simpa using h4) ⟨3, o, rfl, Or.inr (Or.inr (Or.inr ⟨rfl, h5, h6, h7⟩)), rfl⟩
end
end Go.Proofs.Ytjpblaenebodlaa.Wt

/- The document's closing: what it comes to. -/
set_option linter.unusedVariables false
set_option linter.unusedSimpArgs false
set_option linter.unusedSectionVars false
set_option maxRecDepth 100000
namespace Go.Proofs.Ytjpblaenebodlaa.Wt
open Go Go.Proofs.Ytjpblaenebodlaa.Vc Go.Proofs.Ytjpblaenebodlaa.T
open Go.Proofs.Ytjpblaenebodlaa.Apart (RdL own_rdl wrap_nat getE own_len copy same take_snoc Sl sv New LL)
open Go.Proofs.Ytjpblaenebodlaa.Lits (fl fl_iff idx idx_inj idx_range Ans ans_of indexP formedP tidyP Td Srt)

structure Vt (C : List (List Int)) (K : List Int) (top : Nat) (tr : List Int) : Prop where
  nd : tr.Nodup
  cons : Cons tr
  wi : ∀ x ∈ tr, Wi top x
  sub : ∀ x ∈ K, x ∈ tr
  der : ∀ x ∈ tr, Der C K x
theorem Vt.len {C : List (List Int)} {K : List Int} {top : Nat} {tr : List Int} (h : Vt C K top tr) : tr.length ≤ top := tr_le h.cons h.nd h.wi
theorem Vt.put {C : List (List Int)} {K : List Int} {top : Nat} {tr : List Int} (h : Vt C K top tr) {c : List Int} {l : Int} (hc : c ∈ C) (hl : l ∈ c) (hw : Wi top l) (h0 : lv tr l = 0) (hall : ∀ x ∈ c, x = l ∨ lv tr x = -1) : Vt C K top (tr ++ [l]) := by
  obtain ⟨n1, n2⟩ := lv_nil.1 h0
  refine ⟨List.nodup_append.2 ⟨h.nd, by simp, fun x hx y hy => ?_⟩, fun x hx hn => ?_, fun x hx => ?_, fun x hx => List.mem_append_left _ (h.sub x hx), fun x hx => ?_⟩
  · rw [List.mem_singleton.1 hy]
    exact fun e => n1 (e ▸ hx)
  · rcases List.mem_append.1 hx with a | a <;> rcases List.mem_append.1 hn with b | b
    · exact h.cons x a b
    · have e := List.mem_singleton.1 b
      exact n2 (by rw [← e, Int.neg_neg]; exact a)
    · have e := List.mem_singleton.1 a
      exact n2 (by rw [← e]; exact b)
    · have e1 := List.mem_singleton.1 a
      have e2 := List.mem_singleton.1 b
      have := hw.1; omega
  · rcases List.mem_append.1 hx with a | a
    · exact h.wi x a
    · rw [List.mem_singleton.1 a]; exact hw
  · rcases List.mem_append.1 hx with a | a
    · exact h.der x a
    · rw [List.mem_singleton.1 a]
      refine Der.unit hc hl fun y hy hne => h.der _ ?_
      rcases hall y hy with e | e
      · exact absurd e hne
      · exact (lv_no h.cons).1 e
theorem vI_nil (m : Nat) : vI m [] = List.replicate (m + 1) (I 0) := by
  unfold vI
  apply List.ext_getElem
  · simp
  · intro i h1 h2
    simp [lv]
section
variable {B : Nat → Prop} {w : World} {nv : Int} {p : Option Addr} {n c : Nat} {css : List (List Int)} {kp : Option Addr} {kn kc : Nat} {K : List Int}
theorem values85 (hC : RdC B w p n css) (hn : n ≤ 17592186044416) (hl : ∀ es ∈ css, es.length ≤ 17592186044416 ∧ ∀ x ∈ es, fl x = true) (hK : RdL w kp kn K) (hkn : kn ≤ 17592186044416) (hKf : ∀ x ∈ K, fl x = true) :
    Calls Try.prog 85 #[.agg #[I nv, .slice p n c], .slice kp kn kc] w fun e w' => ∃ b top : Nat, e = .returned (Vs b top) ∧ top ≤ 1048576 ∧ (∀ x ∈ K, x.natAbs ≤ top) ∧ (∀ es ∈ css, ∀ x ∈ es, x.natAbs ≤ top) ∧ Blk w' b (vI top []) 3 ∧ w.heap.size ≤ b ∧ Keep None w w' := by
  refine (V85_calls nv p n c kp kn kc w (fun v w' => ∃ b top : Nat, v = Vs b top ∧ top ≤ 1048576 ∧ (∀ x ∈ K, x.natAbs ≤ top) ∧ (∀ es ∈ css, ∀ x ∈ es, x.natAbs ≤ top) ∧ Blk w' b (vI top []) 3 ∧ w.heap.size ≤ b ∧ Keep None w w') ?_).mono fun e w' ⟨v, he, b, top, hv, hk⟩ => ⟨b, top, by rw [he, hv], hk⟩
  unfold V85
  have hll := hC.len
  refine alc_at fun b2 w1 hb2 hB2 k1 => ?_
  refine cl_of ok94 (great94 (hK.keep0 k1) hkn hKf (a := 0) (by decide)) fun e w2 ⟨g, he, _, hg, hgb, k2⟩ => ⟨g, he, ?_⟩
  refine lp_of (fun s W => ∃ (i g : Nat), s.1 = (g : Int) ∧ s.2.1 = i ∧ i ≤ n ∧ Keep None w1 W ∧ g ≤ 1048576 ∧ (∀ x ∈ K, x.natAbs ≤ g) ∧ ∀ es ∈ css.take i, ∀ x ∈ es, x.natAbs ≤ g) (fun s _ => (n - s.2.1).toNat) ⟨0, g, rfl, rfl, Nat.zero_le _, k2, hgb, hg, fun x hx => by simp at hx⟩ ?_
  rintro ⟨g', i', ⟨⟩⟩ W ⟨i, g, hg, hi', hi, kW, hgb, hgK, hv⟩
  dsimp only at hg hi' ⊢
  subst hg; subst hi'
  have hBW := hB2.keep0 kW
  refine ldC_of (x := p) (n := n) (c := c) (by rw [add_mk]; exact hBW.cell 1) ?_
  refine pif_of (fun hlt => ?_) fun hge => ?_
  · have hlt : i < n := by simpa using hlt
    rw [wrap_nat i (by omega)]
    refine ldC_of (x := p) (n := n) (c := c) (by rw [add_mk]; exact hBW.cell 1) ?_
    obtain ⟨es, hes⟩ := getE (show i < css.length by omega)
    have hm := List.mem_of_getElem? hes
    refine ((hC.keep0 k1).keep0 kW).ix hes fun a q k cc ha hRd => ldC_of ha ?_
    refine cl_of ok94 (great94 hRd (by rw [← hRd.len]; exact (hl es hm).1) (hl es hm).2 (a := g) hgb) fun e w3 ⟨g2, he, h1, h2, h3, k3⟩ => ⟨g2, he, ?_⟩
    refine ⟨⟨i + 1, g2, rfl, rfl, hlt, kW.then0 k3, h3, fun x hx => by have := hgK x hx; omega, fun y hy => ?_⟩, by omega⟩
    rw [List.take_add_one, hes] at hy
    rcases List.mem_append.1 hy with hy | hy
    · exact fun x hx => by have := hv y hy x hx; omega
    · rw [List.mem_singleton.1 hy]; exact h2
  · have hge : i = n := by simp at hge; omega
    subst hge
    rw [← hll, List.take_length] at hv
    rw [wrap_nat g (by omega)]
    refine mk_of Try.underlying29 (z := I 0) (B := 8) (by kernel_rfl) rfl (by omega) (by omega) (by omega) fun b w3 hb hB3 k3 => ?_
    rw [Int.toNat_natCast] at hB3 ⊢
    refine ⟨b, g, rfl, hgb, hgK, hv, by rw [vI_nil]; exact hB3, ?_, (k1.then0 kW).then0 k3⟩
    have := k1.size; have := kW.size; omega
theorem given72 (hC : RdC B w p n css) (hn : n ≤ 17592186044416) (hl : ∀ es ∈ css, es.length ≤ 17592186044416 ∧ ∀ x ∈ es, fl x = true) (hK : RdL w kp kn K) (hkn : kn ≤ 17592186044416) (hKf : ∀ x ∈ K, fl x = true) (hKn : K.Nodup) (hKc : Cons K) (hKB : ∀ j, ob kp j → 0 < kn → j < w.heap.size) :
    Calls Try.prog 72 #[.agg #[I nv, .slice p n c], .slice kp kn kc] w fun e w' => ∃ b top : Nat, e = .returned (.tuple #[Vs b top, .bool true]) ∧ top ≤ 1048576 ∧ Vt css K top K ∧ (∀ es ∈ css, ∀ x ∈ es, Wi top x) ∧ Blk w' b (vI top K) 3 ∧ w.heap.size ≤ b ∧ Keep None w w' := by
  refine (V72_calls nv p n c kp kn kc w (fun v w' => ∃ b top : Nat, v = .tuple #[Vs b top, .bool true] ∧ top ≤ 1048576 ∧ Vt css K top K ∧ (∀ es ∈ css, ∀ x ∈ es, Wi top x) ∧ Blk w' b (vI top K) 3 ∧ w.heap.size ≤ b ∧ Keep None w w') ?_).mono fun e w' ⟨v, he, b, top, hv, hk⟩ => ⟨b, top, by rw [he, hv], hk⟩
  unfold V72
  have hkl := hK.len
  refine alc_at fun b2 w1 hb2 hB2 k1 => ?_
  refine ldI_of (x := nv) (by rw [add_mk]; exact hB2.cell 0) ?_
  refine ldC_of (x := p) (n := n) (c := c) (by rw [add_mk]; exact hB2.cell 1) ?_
  refine cl_of ok85 (values85 (nv := nv) (hC.keep0 k1) hn hl (hK.keep0 k1) hkn hKf) fun e w2 ⟨b, top, he, ht, hKt, hCt, hBb, hbs, k2⟩ => ⟨some ⟨b, 0, none⟩, top + 1, top + 1, he, ?_⟩
  have hKw : ∀ x ∈ K, Wi top x := fun x hx => by have := hKt x hx; have := fl_iff.1 (hKf x hx); exact ⟨this.1, by omega, by omega⟩
  have z1 := k1.size
  refine lp_of (fun s W => ∃ i : Nat, s.1 = i ∧ i ≤ kn ∧ Blk W b (vI top (K.take i)) 3 ∧ Keep None w W) (fun s _ => (kn - s.1).toNat) ⟨0, rfl, Nat.zero_le _, by rw [List.take_zero]; exact hBb, k1.then0 k2⟩ ?_
  rintro ⟨i', ⟨⟩⟩ W ⟨i, rfl, hi, hBW, kW⟩
  dsimp only
  have hKc' : Cons (K.take i) := fun x hx hn => hKc x (List.mem_of_mem_take hx) (List.mem_of_mem_take hn)
  refine pif_of (fun hlt => ?_) fun hge => ?_
  · have hlt : i < kn := by simpa using hlt
    rw [wrap_nat i (by omega)]
    refine (hK.keep0 kW).ix hlt fun a x hx ha => ldI_of ha ?_
    have hxm := List.mem_of_getElem? hx
    have hx0 : lv (K.take i) x = 0 := by
      refine lv_nil.2 ⟨fun hm => ?_, fun hm => hKc x hxm (List.mem_of_mem_take hm)⟩
      obtain ⟨j, hj⟩ := List.getElem?_of_mem hm
      rw [List.getElem?_take] at hj
      split at hj
      · rename_i hji
        have := pos_uniq hKn hj hx
        omega
      · cases hj
    refine cl_of ok86 (value86 hBW ht hKc' (hKw x hxm)) fun e w3 ⟨he, hw⟩ => ⟨_, he, ?_⟩
    subst hw
    rw [hx0]
    refine pif_f rfl ?_
    refine (hK.keep0 kW).ix hlt fun a' x' hx' ha' => ldI_of ha' ?_
    rw [hx] at hx'; injection hx' with hx'; subst hx'
    refine cl_of ok87 (put87 hBW ht (hKw x hxm) hx0) fun e w4 ⟨he, hB4, k4⟩ => ⟨he, ⟨i + 1, rfl, hlt, by rw [take_snoc hx]; exact hB4, kW.trans k4 fun j hj hh => ?_⟩, by omega⟩
    have hh' : j = b := hh
    omega
  · have hge : i = kn := by simp at hge; omega
    subst hge
    rw [← hkl, List.take_length] at hBW
    exact ⟨b, top, rfl, ht, ⟨hKn, hKc, hKw, fun _ h => h, fun x hx => Der.fact hx⟩, fun es he x hx => by have := hCt es he x hx; have := fl_iff.1 ((hl es he).2 x hx); exact ⟨this.1, by omega, by omega⟩, hBW, by omega, kW⟩
/-- one round -/
theorem round73 (hC : RdC B w p n css) (hn : n ≤ 17592186044416) (hl : ∀ es ∈ css, es.length ≤ 17592186044416) {top b : Nat} {tr : List Int} (ht : top ≤ 1048576) (hV : Vt css K top tr) (hw : ∀ es ∈ css, ∀ x ∈ es, Wi top x) (hB : Blk w b (vI top tr) 3) (hBb : ∀ i, B i → i ≠ b) :
    Calls Try.prog 73 #[.agg #[I nv, .slice p n c], Vs b top] w fun e w' => ∃ (m : Nat) (cl : Bool) (tr' : List Int), e = .returned (.tuple #[I m, .bool cl]) ∧ Blk w' b (vI top tr') 3 ∧ Vt css K top tr' ∧ Keep (One b) w w' ∧ tr'.length = tr.length + m ∧ (cl = true → Clash css K) ∧ (cl = false → m = 0 → Closed css tr') := by
  refine (V73_calls nv p n c (some ⟨b, 0, none⟩) (top + 1) (top + 1) w (fun v w' => ∃ (m : Nat) (cl : Bool) (tr' : List Int), v = .tuple #[I m, .bool cl] ∧ Blk w' b (vI top tr') 3 ∧ Vt css K top tr' ∧ Keep (One b) w w' ∧ tr'.length = tr.length + m ∧ (cl = true → Clash css K) ∧ (cl = false → m = 0 → Closed css tr')) ?_).mono fun e w' ⟨v, he, m, cl, tr', hv, hk⟩ => ⟨m, cl, tr', by rw [he, hv], hk⟩
  unfold V73
  have hll := hC.len
  have hblt := hB.lt
  refine alc_at fun b2 w1 hb2 hB2 k1 => ?_
  have z1 := k1.size
  refine lp_of (fun s W => ∃ (i m : Nat) (tr' : List Int), s.1 = (m : Int) ∧ s.2.1 = i ∧ i ≤ n ∧ m ≤ i ∧ Blk W b2 [I nv, .slice p n c] 28 ∧ Blk W b (vI top tr') 3 ∧ Vt css K top tr' ∧ Keep (One b) w W ∧ tr'.length = tr.length + m ∧ (m = 0 → tr' = tr ∧ ∀ es ∈ css.take i, (∃ x ∈ es, x ∈ tr) ∨ ∃ x ∈ es, ∃ y ∈ es, x ≠ y ∧ lv tr x = 0 ∧ lv tr y = 0))
    (fun s _ => (n - s.2.1).toNat) ⟨0, 0, tr, rfl, rfl, Nat.zero_le _, Nat.le_refl _, hB2, hB.keep0 k1, hV, k1.none, rfl, fun _ => ⟨rfl, fun es he => by simp at he⟩⟩ ?_
  rintro ⟨m', i', ⟨⟩⟩ W ⟨i, m, tr', hm, hi', hi, hmi, hA, hBW, hV', kW, hlen, hz⟩
  dsimp only at hm hi' ⊢
  subst hm; subst hi'
  refine ldC_of (x := p) (n := n) (c := c) (by rw [add_mk]; exact hA.cell 1) ?_
  refine pif_of (fun hlt => ?_) fun hge => ?_
  · have hlt : i < n := by simpa using hlt
    rw [wrap_nat i (by omega)]
    obtain ⟨es, hes⟩ := getE (show i < css.length by omega)
    have hmm := List.mem_of_getElem? hes
    refine ⟨fun s W' => ∃ (m1 : Nat) (tr1 : List Int), s.1 = (m1 : Int) ∧ m1 ≤ i + 1 ∧ Blk W' b2 [I nv, .slice p n c] 28 ∧ Blk W' b (vI top tr1) 3 ∧ Vt css K top tr1 ∧ Keep (One b) w W' ∧ tr1.length = tr.length + m1 ∧ (m1 = 0 → tr1 = tr ∧ ∀ es ∈ css.take (i + 1), (∃ x ∈ es, x ∈ tr) ∨ ∃ x ∈ es, ∃ y ∈ es, x ≠ y ∧ lv tr x = 0 ∧ lv tr y = 0), ?_, ?_⟩
    · refine ldC_of (x := p) (n := n) (c := c) (by rw [add_mk]; exact hA.cell 1) ?_
      refine (hC.keep kW fun j hj hh => hBb j hj hh).ix hes fun a q k cc ha hRd => ldC_of ha ?_
      refine cl_of ok88 (stands88 hBW ht hV'.cons hRd (by rw [← hRd.len]; exact hl es hmm) (hw es hmm)) fun e w4 ⟨k2, l, he, hS, hw4⟩ => ⟨k2, l, he, ?_⟩
      subst hw4
      have same : (∃ x ∈ es, x ∈ tr') ∨ (∃ x ∈ es, ∃ y ∈ es, x ≠ y ∧ lv tr' x = 0 ∧ lv tr' y = 0) → (m = 0 → tr' = tr ∧ ∀ es ∈ css.take (i + 1), (∃ x ∈ es, x ∈ tr) ∨ ∃ x ∈ es, ∃ y ∈ es, x ≠ y ∧ lv tr x = 0 ∧ lv tr y = 0) := fun ho h0 => by
        obtain ⟨e1, e2⟩ := hz h0
        refine ⟨e1, fun es' he' => ?_⟩
        rw [List.take_add_one, hes] at he'
        rcases List.mem_append.1 he' with he' | he'
        · exact e2 es' he'
        · rw [List.mem_singleton.1 he', ← e1]; exact ho
      rcases hS with ⟨rfl, rfl, ho⟩ | ⟨rfl, rfl, ho⟩ | ⟨rfl, rfl, ho⟩ | ⟨rfl, h1, h2, h3⟩
      · exact pif_f rfl (pif_f rfl ⟨m, tr', rfl, by omega, hA, hBW, hV', kW, hlen, same (Or.inl ho)⟩)
      · exact pif_f rfl (pif_f rfl ⟨m, tr', rfl, by omega, hA, hBW, hV', kW, hlen, same (Or.inr ho)⟩)
      · exact pif_t rfl ⟨m, true, tr', rfl, hBW, hV', kW, hlen, fun _ => ⟨es, hmm, fun x hx => hV'.der _ ((lv_no hV'.cons).1 (ho x hx))⟩, fun h => by cases h⟩
      · refine pif_f rfl (pif_t rfl ?_)
        refine cl_of ok87 (put87 hBW ht (hw es hmm l h1) h2) fun e w5 ⟨he, hB5, k5⟩ => ⟨he, m + 1, tr' ++ [l], ?_, by omega, hA.keep1 k5 (by omega), hB5, hV'.put hmm h1 (hw es hmm l h1) h2 h3, kW.trans k5 fun j _ hh => hh, by rw [List.length_append, List.length_singleton]; omega, fun h => by omega⟩
        show IntKind.wrap .i64 ((m : Int) + 1) = _
        rw [wrap_nat m (by omega)]
    · rintro ⟨m1', ⟨⟩⟩ W' ⟨m1, tr1, h1, h2, h3⟩
      exact ⟨⟨i + 1, m1, tr1, h1, rfl, hlt, h2, h3⟩, by omega⟩
  · have hge : i = n := by simp at hge; omega
    subst hge
    rw [← hll, List.take_length] at hz
    refine ⟨m, false, tr', rfl, hBW, hV', kW, hlen, fun h => (by cases h), fun _ h0 c hc => ?_⟩
    obtain ⟨e1, e2⟩ := hz h0
    rw [e1]
    rcases e2 c hc with ⟨x, hx, hxt⟩ | ⟨x, hx, y, hy, hne, h1, h2⟩
    · exact Or.inr (Or.inl ⟨x, hx, hxt⟩)
    · exact Or.inr (Or.inr ⟨x, hx, y, hy, hne, (lv_nil.1 h1).2, (lv_nil.1 h2).2⟩)
theorem closing67 (hC : RdC B w p n css) (hn : n ≤ 17592186044416) (hl : ∀ es ∈ css, es.length ≤ 17592186044416 ∧ ∀ x ∈ es, fl x = true) (hK : RdL w kp kn K) (hkn : kn ≤ 17592186044416) (hKf : ∀ x ∈ K, fl x = true) (hKn : K.Nodup) (hKc : Cons K) (hKB : ∀ j, ob kp j → 0 < kn → j < w.heap.size) (hBl : ∀ i, B i → i < w.heap.size) :
    Calls Try.prog 67 #[.agg #[I nv, .slice p n c], .slice kp kn kc] w fun e w' => ∃ (b top : Nat) (tr : List Int) (cl : Bool), e = .returned (.tuple #[Vs b top, .bool cl]) ∧ top ≤ 1048576 ∧ Vt css K top tr ∧ Blk w' b (vI top tr) 3 ∧ w.heap.size ≤ b ∧ Keep None w w' ∧ (cl = true → Clash css K) ∧ (cl = false → Closed css tr) := by
  refine (V67_calls nv p n c kp kn kc w (fun v w' => ∃ (b top : Nat) (tr : List Int) (cl : Bool), v = .tuple #[Vs b top, .bool cl] ∧ top ≤ 1048576 ∧ Vt css K top tr ∧ Blk w' b (vI top tr) 3 ∧ w.heap.size ≤ b ∧ Keep None w w' ∧ (cl = true → Clash css K) ∧ (cl = false → Closed css tr)) ?_).mono fun e w' ⟨v, he, b, top, tr, cl, hv, hk⟩ => ⟨b, top, tr, cl, by rw [he, hv], hk⟩
  unfold V67
  have hlo : ∀ es ∈ css, es.length ≤ 17592186044416 := fun es he => (hl es he).1
  refine alc_at fun b2 w1 hb2 hB2 k1 => ?_
  have z1 := k1.size
  refine ldI_of (x := nv) (by rw [add_mk]; exact hB2.cell 0) ?_
  refine ldC_of (x := p) (n := n) (c := c) (by rw [add_mk]; exact hB2.cell 1) ?_
  refine cl_of ok72 (given72 (nv := nv) (hC.keep0 k1) hn hl (hK.keep0 k1) hkn hKf hKn hKc fun j hj h0 => by have := hKB j hj h0; omega) fun e w2 ⟨b, top, he, ht, hV, hw, hBb, hbs, k2⟩ => ⟨some ⟨b, 0, none⟩, top + 1, top + 1, true, he, ?_⟩
  refine pif_f rfl ?_
  have l2 := hB2.lt
  refine lpg_of (G := List Int) (fun tr s W => ∃ m : Nat, s.1 = (m : Int) ∧ Blk W b2 [I nv, .slice p n c] 28 ∧ Blk W b (vI top tr) 3 ∧ Vt css K top tr ∧ Keep None w W ∧ (s.2.1 = true → Clash css K) ∧ (s.2.1 = false → m = 0 → Closed css tr))
    (fun tr s _ => (if s.1 = 0 then 0 else 1) + (if s.2.1 = true then 0 else 1) + 2 * (top - tr.length)) K ⟨1, rfl, hB2.keep0 k2, hBb, hV, k1.then0 k2, fun h => (by cases h), fun _ h => by omega⟩ ?_
  rintro tr ⟨m', cl, ⟨⟩⟩ W ⟨m, hm, hA, hBW, hV', kW, h1, h2⟩ Q hQ
  dsimp only at hm h1 h2 ⊢
  subst hm
  refine pif_of (fun hq => ?_) fun hq => ?_
  · have hq2 : 0 < m ∧ cl = false := by
      cases cl with
      | true => simp at hq
      | false => exact ⟨by simpa using hq, rfl⟩
    obtain ⟨hpos, rfl⟩ := hq2
    refine ldI_of (x := nv) (by rw [add_mk]; exact hA.cell 0) ?_
    refine ldC_of (x := p) (n := n) (c := c) (by rw [add_mk]; exact hA.cell 1) ?_
    refine cl_of ok73 (round73 (nv := nv) (hC.keep0 kW) hn hlo ht hV' hw hBW fun i hi e => by have := hBl i hi; omega) fun e w4 ⟨m2, cl2, tr2, he, hB4, hV4, k4, hlen, c1, c2⟩ => ⟨m2, cl2, he, ?_⟩
    have hlt := hV4.len
    refine hQ tr2 (m2, cl2, ()) w4 ⟨m2, rfl, hA.keep1 k4 (by omega), hB4, hV4, kW.trans k4 fun j hj hh => by have hh' : j = b := hh; omega, c1, c2⟩ ?_
    dsimp only
    rw [if_neg (show ¬ (m : Int) = 0 by omega)]
    by_cases hm0 : m2 = 0
    · subst hm0
      rw [if_pos (by rfl)]
      by_cases hcl : cl2 = true
      · rw [if_pos hcl]
        have : ¬ (false = true) := by decide
        rw [if_neg this]; omega
      · rw [if_neg hcl]
        have : ¬ (false = true) := by decide
        rw [if_neg this]; omega
    · rw [if_neg (show ¬ (m2 : Int) = 0 by omega)]
      have : ¬ (false = true) := by decide
      rw [if_neg this]
      have : (if cl2 = true then 0 else 1) ≤ 1 := by split <;> omega
      omega
  · refine ⟨b, top, tr, cl, rfl, ht, hV', hBW, by omega, kW, h1, fun hc => h2 hc ?_⟩
    subst hc
    simp at hq; omega
end
end Go.Proofs.Ytjpblaenebodlaa.Wt

/- The document's Watch in memory; Close; what is known. -/
set_option linter.unusedVariables false
set_option linter.unusedSimpArgs false
set_option linter.unusedSectionVars false
set_option maxRecDepth 100000
namespace Go.Proofs.Ytjpblaenebodlaa.Wt
open Go Go.Proofs.Ytjpblaenebodlaa.Vc Go.Proofs.Ytjpblaenebodlaa.T
open Go.Proofs.Ytjpblaenebodlaa.Apart (RdL own_rdl wrap_nat getE own_len copy same take_snoc Sl sv New LL Gro)
open Go.Proofs.Ytjpblaenebodlaa.Lits (fl fl_iff idx idx_inj idx_range Ans ans_of indexP formedP tidyP Td Srt)

theorem closed_lits {C : List (List Int)} {K tr : List Int} {top : Nat} (hV : Vt C K top tr) (hc : Closed C tr) (h0 : ∀ c ∈ C, ∀ x ∈ c, x ≠ 0) : (∀ x, x ∈ tr ↔ Der C K x) ∧ ¬ Clash C K :=
  ⟨fun x => ⟨fun h => hV.der x h, fun h => closed_der hc hV.cons h0 hV.sub h⟩, closed_clash hc hV.cons h0 hV.sub⟩
section
variable {B : Nat → Prop} {w : World} {p : Option Addr} {n c : Nat} {css : List (List Int)} {kp : Option Addr} {kn kc : Nat} {K : List Int}
theorem close54 {nv : Nat} (hC : RdC B w p n css) (hn : n ≤ 17592186044416) (hl : ∀ es ∈ css, es.length ≤ 17592186044416) (hf : FormedF nv css) (hK : RdL w kp kn K) (hkn : kn ≤ 17592186044416) (hKf : ∀ x ∈ K, Wi nv x) (hKn : K.Nodup) (hKc : Cons K) (hKB : ∀ j, ob kp j → 0 < kn → j < w.heap.size) (hBl : ∀ i, B i → i < w.heap.size) :
    Calls Try.prog 54 #[.agg #[I nv, .slice p n c], .slice kp kn kc] w fun e w' => ∃ (cl : Bool) (q : Option Addr) (L : List Int) (lc : Nat), e = .returned (.tuple #[.slice q L.length lc, .bool cl, I 0]) ∧ Keep None w w' ∧ RdL w' q L.length L ∧ L.length ≤ 1048576 ∧ (∀ j, ob q j → w.heap.size ≤ j) ∧
      (cl = true → Clash css K) ∧ (cl = false → (∀ x, x ∈ L ↔ Der css K x) ∧ L.Nodup ∧ ¬ Clash css K ∧ Cons L ∧ ∀ x ∈ L, Wi nv x) := by
  refine (V54_calls nv p n c kp kn kc w (fun v w' => ∃ (cl : Bool) (q : Option Addr) (L : List Int) (lc : Nat), v = .tuple #[.slice q L.length lc, .bool cl, I 0] ∧ Keep None w w' ∧ RdL w' q L.length L ∧ L.length ≤ 1048576 ∧ (∀ j, ob q j → w.heap.size ≤ j) ∧
      (cl = true → Clash css K) ∧ (cl = false → (∀ x, x ∈ L ↔ Der css K x) ∧ L.Nodup ∧ ¬ Clash css K ∧ Cons L ∧ ∀ x ∈ L, Wi nv x)) ?_).mono fun e w' ⟨v, he, cl, q, L, lc, hv, hk⟩ => ⟨cl, q, L, lc, by rw [he, hv], hk⟩
  unfold V54
  have hnv : nv ≤ 1048576 := by have := hf.2.1; omega
  have hfl : ∀ es ∈ css, es.length ≤ 17592186044416 ∧ ∀ x ∈ es, fl x = true := fun es he => ⟨hl es he, fun x hx => wi_fl2 hnv (hf.2.2 es he x hx)⟩
  have hKfl : ∀ x ∈ K, fl x = true := fun x hx => wi_fl2 hnv (hKf x hx)
  refine alc_at fun b2 w1 hb2 hB2 k1 => ?_
  have z1 := k1.size
  refine ldI_of (x := (nv : Int)) (by rw [add_mk]; exact hB2.cell 0) ?_
  refine ldC_of (x := p) (n := n) (c := c) (by rw [add_mk]; exact hB2.cell 1) ?_
  refine cl_of ok50 (formed50 (nv := nv) (hC.keep0 k1) hn hl) fun e w2 ⟨r, he, hr, k2⟩ => ⟨r, he, ?_⟩
  obtain rfl : r = true := hr.2 hf
  have z2 := k2.size
  refine gd_t rfl (cl_of ok65 (sound65 ((hK.keep0 k1).keep0 k2) hkn) fun e w4 ⟨r, he, hr, k4⟩ => ⟨r, he, ?_⟩)
  obtain rfl : r = true := hr.2 hKfl
  refine pif_f rfl ?_
  have z4 := k4.size
  have hB4 := (hB2.keep0 k2).keep0 k4
  refine ldI_of (x := (nv : Int)) (by rw [add_mk]; exact hB4.cell 0) ?_
  refine ldC_of (x := p) (n := n) (c := c) (by rw [add_mk]; exact hB4.cell 1) ?_
  have k14 : Keep None w w4 := (k1.then0 k2).then0 k4
  refine cl_of ok67 (closing67 (nv := nv) (hC.keep0 k14) hn hfl (hK.keep0 k14) hkn hKfl hKn hKc (fun j hj h0 => by have := hKB j hj h0; omega) fun i hi => by have := hBl i hi; omega) fun e w5 ⟨b, top, tr, cl, he, ht, hV, hBv, hbs, k5, h1, h2⟩ => ⟨some ⟨b, 0, none⟩, top + 1, top + 1, cl, he, ?_⟩
  have k15 := k14.then0 k5
  refine pif_of (fun hq => ?_) fun hq => ?_
  · exact ⟨true, none, [], 0, rfl, k15, ⟨rfl, fun i x hx => by simp at hx⟩, by decide, (fun j ⟨a, h, _⟩ => by cases h), fun _ => h1 hq, fun h => by cases h⟩
  have hclo := h2 hq
  have h0 : ∀ c ∈ css, ∀ x ∈ c, x ≠ 0 := fun c hc x hx => (hf.2.2 c hc x hx).1
  obtain ⟨hder, hncl⟩ := closed_lits hV hclo h0
  have hwn : ∀ x ∈ tr, Wi nv x := fun x hx => by
    have := (hder x).1 hx
    cases this with
    | fact h => exact hKf x h
    | unit hc hl _ => exact hf.2.2 _ hc x hl
  refine lp_of (fun s W => ∃ (i : Nat) (L : List Int), s.2.1 = i ∧ 1 ≤ i ∧ i ≤ top + 1 ∧ Gro w5 W s.1.1 s.1.2.1 s.1.2.2 L ∧ L.Nodup ∧ L.length < i ∧ ∀ x, x ∈ L ↔ x ∈ tr ∧ x.natAbs < i) (fun s _ => ((top : Int) + 1 - s.2.1).toNat)
    ⟨1, [], rfl, Nat.le_refl _, by omega, Gro.nil _, List.nodup_nil, by simp, fun x => ⟨fun h => (by cases h), fun ⟨h1, h2⟩ => by have := (hV.wi x h1).1; omega⟩⟩ ?_
  rintro ⟨⟨q, m, d⟩, i', ⟨⟩⟩ W ⟨i, L, hi', h1i, hi, hG, hnd, hLl, hmem⟩
  dsimp only at hi' hG ⊢
  subst hi'
  have hLm := hG.len
  have hBW := hBv.keep0 hG.keep
  refine pif_of (fun hlt => ?_) fun hge => ?_
  · have hlt : i < top + 1 := by have := of_decide_eq_true hlt; omega
    rw [wrap_nat i (by omega)]
    have rd : ∀ {K : Int → Prop}, K (lv tr i) → ixA (some ⟨b, 0, none⟩) (top + 1) (i : Int) 1 fun p => ldI .i64 W p K := fun {K} hK => by
      refine ixA_of1 (by omega) (by omega) ?_
      rw [Int.toNat_natCast]
      exact ldI_of (by rw [hBW.cell]; exact vI_at (by omega)) hK
    refine ⟨fun s W' => ∃ L' : List Int, Gro w5 W' s.1.1 s.1.2.1 s.1.2.2 L' ∧ L'.Nodup ∧ L'.length < i + 1 ∧ ∀ x, x ∈ L' ↔ x ∈ tr ∧ x.natAbs < i + 1, ?_, ?_⟩
    · refine rd (pif_of (fun hq2 => ?_) fun hq2 => ?_)
      · refine rd ?_
        have hne : lv tr i ≠ 0 := by simpa using hq2
        have hx : ∃ x : Int, IntKind.wrap .i64 ((i : Int) * lv tr i) = x ∧ x ∈ tr ∧ x.natAbs = i := by
          rcases lv_cases tr i with e | e | e
          · refine ⟨i, by rw [e, IntKind.wrap_i64]; omega, lv_one.1 e, by omega⟩
          · refine ⟨-i, by rw [e, IntKind.wrap_i64]; omega, (lv_no hV.cons).1 e, by omega⟩
          · exact absurd e hne
        obtain ⟨x, e1, hxt, hxa⟩ := hx
        rw [e1]
        refine hG.app (by omega) fun p' c' w' hG' => ⟨L ++ [x], hG', ?_, by rw [List.length_append, List.length_singleton]; omega, fun y => ?_⟩
        · refine List.nodup_append.2 ⟨hnd, by simp, fun a ha b hb => ?_⟩
          rw [List.mem_singleton.1 hb]
          intro e
          have := ((hmem a).1 ha).2
          rw [e] at this; omega
        · rw [List.mem_append, hmem, List.mem_singleton]
          constructor
          · rintro (⟨h1, h2⟩ | rfl)
            · exact ⟨h1, by omega⟩
            · exact ⟨hxt, by omega⟩
          · rintro ⟨h1, h2⟩
            by_cases hy : y.natAbs < i
            · exact Or.inl ⟨h1, hy⟩
            · right
              rcases (by omega : y = x ∨ y = -x) with e | e
              · exact e
              · exact absurd (by rw [← e]; exact h1) (hV.cons x hxt)
      · have he : lv tr i = 0 := by simpa using hq2
        refine ⟨L, hG, hnd, by omega, fun y => ?_⟩
        rw [hmem]
        refine ⟨fun ⟨h1, h2⟩ => ⟨h1, by omega⟩, fun ⟨h1, h2⟩ => ⟨h1, ?_⟩⟩
        apply Classical.byContradiction
        intro hn
        obtain ⟨a1, a2⟩ := lv_nil.1 he
        rcases (by omega : y = (i : Int) ∨ y = -(i : Int)) with e | e
        · exact a1 (by rw [← e]; exact h1)
        · exact a2 (by rw [← e]; exact h1)
    · rintro ⟨⟨q', m', d'⟩, ⟨⟩⟩ W' ⟨L', a1, a2, a3, a4⟩
      exact ⟨⟨i + 1, L', rfl, by omega, by omega, a1, a2, a3, a4⟩, by omega⟩
  · have hge : i = top + 1 := by have := of_decide_eq_false hge; omega
    subst hge
    subst hLm
    have hmem' : ∀ x, x ∈ L ↔ x ∈ tr := fun x => by
      rw [hmem]
      exact ⟨fun h => h.1, fun h => ⟨h, by have := hV.wi x h; have := this.2.1; have := (hV.wi x h).2.2; omega⟩⟩
    refine ⟨false, q, L, d, rfl, k15.then0 hG.keep, own_rdl hG.own, by omega, (fun j hj => by have := hG.new j hj; have := k15.size; omega), fun h => (by cases h), fun _ => ⟨fun x => (hmem' x).trans (hder x), hnd, hncl, fun x hx hn => hV.cons x ((hmem' x).1 hx) ((hmem' _).1 hn), fun x hx => hwn x ((hmem' x).1 hx)⟩⟩
end
/-- the document's Watch, in blocks of M -/
structure Dm (M : Nat → Prop) (w : World) (m : Nat) (C lvs : List (List Int)) (rest clash : Bool) (nv : Nat) : Prop where
  blk : ∃ (p : Option Addr) (n c : Nat) (q : Option Addr) (k d : Nat) (hs ks : List Sl) (M1 M2 : Nat → Prop), Blk w m [I nv, .slice p n c, .slice q k d, .bool rest, .bool clash] 83 ∧ LL M1 w p n c hs C ∧ LL M2 w q k d ks lvs ∧ (∀ i, M1 i → M i ∧ ¬ M2 i ∧ i ≠ m) ∧ ∀ i, M2 i → M i ∧ i ≠ m
  own : M m
  lt : ∀ i, M i → i < w.heap.size
  cf : FormedF nv C
  cl : ∀ es ∈ C, es.length ≤ 17592186044416
  ne : lvs ≠ []
  nd : lvs.flatten.Nodup
  cons : Cons lvs.flatten
  wi : ∀ x ∈ lvs.flatten, Wi nv x
  pos : ∀ (i : Nat) (L : List Int), lvs[i]? = some L → 0 < i → L ≠ []
theorem flat_len : ∀ (l : List (List Int)), (∀ L ∈ l, L ≠ []) → l.length ≤ l.flatten.length := by
  intro l
  induction l with
  | nil => intro _; simp
  | cons L l ih =>
    intro h
    have h1 := ih fun x hx => h x (List.mem_cons_of_mem _ hx)
    have h2 : 0 < L.length := List.length_pos_iff.2 (h L (List.mem_cons_self))
    simp only [List.flatten_cons, List.length_append, List.length_cons]; omega
section
variable {M : Nat → Prop} {w w' : World} {m : Nat} {C lvs : List (List Int)} {rest clash : Bool} {nv : Nat}
theorem Dm.kl (h : Dm M w m C lvs rest clash nv) : lvs.flatten.length ≤ nv ∧ lvs.length ≤ nv + 1 ∧ nv ≤ 1048576 := by
  have h1 := tr_le h.cons h.nd h.wi
  have h2 := h.cf.2.1
  refine ⟨h1, ?_, by omega⟩
  cases hl : lvs with
  | nil => exact absurd hl h.ne
  | cons L l =>
    have h3 := flat_len l fun x hx => by
      obtain ⟨i, hi⟩ := List.getElem?_of_mem hx
      exact h.pos (i + 1) x (by rw [hl]; exact hi) (by omega)
    rw [hl] at h1
    simp only [List.flatten_cons, List.length_append, List.length_cons] at h1 ⊢; omega
theorem Dm.keep {U : Nat → Prop} (h : Dm M w m C lvs rest clash nv) (hk : Keep U w w') (hu : ∀ i, U i → ¬ M i) : Dm M w' m C lvs rest clash nv := by
  obtain ⟨p, n, c, q, k, d, hs, ks, M1, M2, hB, hL1, hL2, h1, h2⟩ := h.blk
  exact ⟨⟨p, n, c, q, k, d, hs, ks, M1, M2, hB.keep hk fun hh => hu m hh h.own, hL1.keep hk fun i hi hh => hu i hh (h1 i hi).1, hL2.keep hk fun i hi hh => hu i hh (h2 i hi).1, h1, h2⟩, h.own, fun i hi => Nat.lt_of_lt_of_le (h.lt i hi) hk.size, h.cf, h.cl, h.ne, h.nd, h.cons, h.wi, h.pos⟩
theorem Dm.keep0 (h : Dm M w m C lvs rest clash nv) (hk : Keep None w w') : Dm M w' m C lvs rest clash nv := h.keep hk fun _ h => h.elim
/-- a list put behind a list of the call's own -/
theorem appL {w0 : World} {p : Option Addr} {n c : Nat} {xs ys : List Int} (h : Gro w0 w p n c xs) {q : Option Addr} {k d : Nat} (hO : Own w 3 1 q k d (ys.map Apart.J)) (hs : n + k ≤ 17592186044416) {K : Option Addr → Nat → Nat → World → Prop}
    (hk : ∀ p' c' w', Gro w0 w' p' (n + k) c' (xs ++ ys) → K p' (n + k) c' w') :
    ∃ (p' : Option Addr) (n' c' : Nat), ∃ w' : World, (Builtin.append_ #[29, 29] 29 #[.slice p n c, .slice q k d]).run Try.prog w = .ok (.slice p' n' c') w' ∧ K p' n' c' w' := by
  refine app_of2 (e := 3) (sz := 1) (z := I 0) (B := 8) Try.underlying29 (by kernel_rfl) rfl (by omega) h.own hO.news (fun u hu => ?_) (by simp only [maxLen]; omega) (by omega) fun p' c' w' hO' hd => ?_
  · obtain ⟨y, _, rfl⟩ := List.mem_map.1 hu; rfl
  · refine hk p' c' w' ⟨by rw [List.map_append]; exact hO', fun i hi => ?_, ?_⟩
    · rcases hd with ⟨e, _⟩ | ⟨e, _⟩
      · rw [e] at hi; exact h.new i hi
      · have := e i hi; have := h.keep.size; omega
    · rcases hd with ⟨_, _, _, k'⟩ | ⟨_, k'⟩
      · exact h.keep.trans k' fun i hi hh => by have := h.new i hh; omega
      · exact h.keep.then0 k'
theorem known52 (h : Dm M w m C lvs rest clash nv) : Calls Try.prog 52 #[.pointer (some ⟨m, 0, none⟩)] w fun e w' => ∃ v, e = .returned v ∧ New w lvs.flatten v w' := by
  refine V52_calls (some ⟨m, 0, none⟩) w (New w lvs.flatten) ?_
  unfold V52
  obtain ⟨p, n, c, q, k, d, hs, ks, M1, M2, hB, hL1, hL2, h1, h2⟩ := h.blk
  obtain ⟨z1, z2, z3⟩ := h.kl
  have hk := hL2.len
  refine lp_of (fun s W => ∃ i : Nat, s.2.1 = i ∧ i ≤ k ∧ Gro w W s.1.1 s.1.2.1 s.1.2.2 (lvs.take i).flatten) (fun s _ => (k - s.2.1).toNat) ⟨0, rfl, Nat.zero_le _, Gro.nil _⟩ ?_
  rintro ⟨⟨v4, v4n, v4c⟩, i', ⟨⟩⟩ W ⟨i, hi', hi, hG⟩
  dsimp only at hi' hG ⊢
  subst hi'
  refine nn_of (ldC_of (x := q) (n := k) (c := d) (by rw [add_mk]; exact (hB.keep0 hG.keep).cell 2) ?_)
  refine pif_of (fun hlt => ?_) fun hge => ?_
  · have hlt : i < k := by simpa using hlt
    rw [wrap_nat i (by omega)]
    refine nn_of (ldC_of (x := q) (n := k) (c := d) (by rw [add_mk]; exact (hB.keep0 hG.keep).cell 2) ?_)
    refine (hL2.keep0 hG.keep).ix hlt fun a x es hx hes ha hO hM => ldC_of ha ?_
    have hol := own_len hO
    have hgl := hG.len
    have hfl : (lvs.take (i + 1)).flatten = (lvs.take i).flatten ++ es := by rw [List.take_add_one, hes]; simp
    have hle : (lvs.take (i + 1)).flatten.length ≤ lvs.flatten.length := by
      conv => rhs; rw [← List.take_append_drop (i + 1) lvs]
      rw [List.flatten_append, List.length_append]; omega
    rw [hfl, List.length_append] at hle
    refine appL hG hO (by omega) fun p' c' w' hG' => ⟨⟨i + 1, rfl, hlt, by rw [hfl]; exact hG'⟩, by omega⟩
  · have hge : i = k := by simp at hge; omega
    subst hge
    rw [← hk, List.take_length] at hG
    exact hG.done
end
end Go.Proofs.Ytjpblaenebodlaa.Wt

/- The document's Watch: New, Add, Assume, Undo, Lits, Depth, Clashes. -/
set_option linter.unusedVariables false
set_option linter.unusedSimpArgs false
set_option linter.unusedSectionVars false
set_option maxRecDepth 100000
namespace Go.Proofs.Ytjpblaenebodlaa.Wt
open Go Go.Proofs.Ytjpblaenebodlaa.Vc Go.Proofs.Ytjpblaenebodlaa.T
open Go.Proofs.Ytjpblaenebodlaa.Apart (RdL own_rdl wrap_nat getE own_len copy same take_snoc Sl sv New LL Gro)
open Go.Proofs.Ytjpblaenebodlaa.Lits (fl fl_iff idx idx_inj idx_range Ans ans_of indexP formedP tidyP Td Srt tidyR)

/-- what a method of the document's leaves -/
structure AfD (M : Nat → Prop) (w : World) (m : Nat) (C lvs : List (List Int)) (rest clash : Bool) (nv : Nat) (M' : Nat → Prop) (w' : World) : Prop where
  dm : Dm M' w' m C lvs rest clash nv
  gr : Grow M w M'
  kp : Keep M w w'
/-- a field is written -/
theorem stf {w : World} {m k : Nat} {cs : List Value} {t : TypeId} {v : Value} {K : World → Prop} (hB : Blk w m cs t) (hk : k < cs.length) (hv : v.oneCell' = true)
    (hK : ∀ w', Blk w' m (cs.set k v) t → Keep (One m) w w' → w'.heap.size = w.heap.size → K w') : nn (some ⟨m, 0, none⟩) fun p => Vc.st w ((p.add k).add 0) v K := by
  refine nn_of ?_
  rw [add_mk, add_mk, Nat.zero_add, Nat.add_zero]
  exact st_of hB hk hv hK
theorem stf2 {w : World} {m k l : Nat} {cs : List Value} {t : TypeId} {v : Value} {K : World → Prop} (hB : Blk w m cs t) (hk : k + l < cs.length) (hv : v.oneCell' = true)
    (hK : ∀ w', Blk w' m (cs.set (k + l) v) t → Keep (One m) w w' → w'.heap.size = w.heap.size → K w') : nn (some ⟨m, 0, none⟩) fun p => Vc.st w (((p.add k).add l).add 0) v K := by
  refine nn_of ?_
  rw [add_mk, add_mk, add_mk, Nat.zero_add, Nat.add_zero]
  exact st_of hB hk hv hK
section
variable {M : Nat → Prop} {w w' : World} {m : Nat} {C lvs : List (List Int)} {rest clash : Bool} {nv : Nat}
theorem within51 (h : Dm M w m C lvs rest clash nv) {p : Option Addr} {n c : Nat} {cs : List Int} (hR : RdL w p n cs) (hn : n ≤ 17592186044416) :
    Calls Try.prog 51 #[.pointer (some ⟨m, 0, none⟩), .slice p n c] w fun e w' => ∃ r : Bool, e = .returned (.bool r) ∧ (r = true ↔ ∀ x ∈ cs, Wi nv x) ∧ Keep None w w' := by
  refine (V51_calls (some ⟨m, 0, none⟩) p n c w (fun v w' => ∃ r : Bool, v = .bool r ∧ (r = true ↔ ∀ x ∈ cs, Wi nv x) ∧ Keep None w w') ?_).mono fun e w' ⟨v, he, r, hv, hk⟩ => ⟨r, by rw [he, hv], hk⟩
  unfold V51
  have hll := hR.len
  have hnv := h.kl.2.2
  obtain ⟨q0, n0, c0, q, k, d, hs, ks, M1, M2, hB, _⟩ := h.blk
  refine cl_of ok65 (sound65 hR hn) fun e w1 ⟨r, he, hr, k1⟩ => ⟨r, he, ?_⟩
  refine pif_of (fun hq => ⟨false, rfl, ⟨fun h => (by cases h), fun h => ?_⟩, k1⟩) fun hq => ?_
  · rw [hr.2 fun x hx => wi_fl2 hnv (h x hx)] at hq; cases hq
  have hfl := hr.1 (by simpa using hq)
  refine lp_of (fun s W => ∃ i : Nat, s.1 = i ∧ i ≤ n ∧ Keep None w W ∧ ∀ x ∈ cs.take i, Wi nv x) (fun s _ => (n - s.1).toNat) ⟨0, rfl, Nat.zero_le _, k1, fun x hx => by simp at hx⟩ ?_
  rintro ⟨i', ⟨⟩⟩ W ⟨i, rfl, hi, kW, hv⟩
  dsimp only
  refine pif_of (fun hlt => ?_) fun hge => ?_
  · have hlt : i < n := by simpa using hlt
    rw [wrap_nat i (by omega)]
    refine ((hR.keep0 kW).keep0 (Keep.refl _ _).drew).ix hlt fun a x hx ha => ldI_of ha ?_
    have hxm := List.mem_of_getElem? hx
    have hfx := fl_iff.1 (hfl x hxm)
    refine nn_of (ldI_of (x := (nv : Int)) (by rw [add_mk, add_mk]; exact (hB.keep0 kW).drew.cell 0) ?_)
    refine cl_of ok66 (var66 (hfl x hxm) W.drew) fun e w3 ⟨he, k3⟩ => ⟨_, he, ?_⟩
    have kW3 : Keep None w w3 := kW.drew.then0 k3
    refine ⟨ldI_of (x := (nv : Int)) (by rw [add_mk, add_mk]; exact (hB.keep0 kW3).cell 0) rfl, ?_⟩
    refine pif_of (fun hq => ⟨false, rfl, ⟨fun h => (by cases h), fun h => ?_⟩, kW3⟩) fun hq => ?_
    · have : ((x.natAbs : Nat) : Int) > nv := of_decide_eq_true hq
      have := h x hxm
      have := this.2.1; have := (h x hxm).2.2; omega
    · have hle : ¬ ((x.natAbs : Nat) : Int) > nv := of_decide_eq_false hq
      refine ⟨⟨i + 1, rfl, hlt, kW3, fun y hy => ?_⟩, by omega⟩
      rw [take_snoc hx] at hy
      rcases List.mem_append.1 hy with hy | hy
      · exact hv y hy
      · rw [List.mem_singleton.1 hy]; exact ⟨hfx.1, by omega, by omega⟩
  · have hge : i = n := by simp at hge; omega
    subst hge
    rw [← hll, List.take_length] at hv
    exact ⟨true, rfl, ⟨fun _ => hv, fun _ => rfl⟩, kW⟩
theorem depth38 (h : Dm M w m C lvs rest clash nv) : Calls Try.prog 38 #[.pointer (some ⟨m, 0, none⟩)] w fun e w' => e = .returned (I ((lvs.length : Int) - 1)) ∧ Keep None w w' := by
  refine ans_of (V38_calls (some ⟨m, 0, none⟩) w (Ans w _) ?_)
  unfold V38
  obtain ⟨q0, n0, c0, q, k, d, hs, ks, M1, M2, hB, _, hL2, _⟩ := h.blk
  have := h.kl
  have hk := hL2.len
  refine nn_of (ldC_of (x := q) (n := k) (c := d) (by rw [add_mk]; exact hB.cell 2) ⟨?_, Keep.refl _ _⟩)
  rw [hk, IntKind.wrap_i64]
  congr 1
  omega
theorem clash39 (h : Dm M w m C lvs rest clash nv) : Calls Try.prog 39 #[.pointer (some ⟨m, 0, none⟩)] w fun e w' => e = .returned (.bool clash) ∧ Keep None w w' := by
  refine ans_of (V39_calls (some ⟨m, 0, none⟩) w (Ans w _) ?_)
  unfold V39
  obtain ⟨q0, n0, c0, q, k, d, hs, ks, M1, M2, hB, _⟩ := h.blk
  exact nn_of (ldB_of (x := clash) (by rw [add_mk]; exact hB.cell 4) ⟨rfl, Keep.refl _ _⟩)
theorem lits37 (h : Dm M w m C lvs rest clash nv) : Calls Try.prog 37 #[.pointer (some ⟨m, 0, none⟩)] w fun e w' => ∃ v L, e = .returned v ∧ Td (· ∈ lvs.flatten) L ∧ New w L v w' := by
  refine (V37_calls (some ⟨m, 0, none⟩) w (fun v w' => ∃ L, Td (· ∈ lvs.flatten) L ∧ New w L v w') ?_).mono fun e w' ⟨v, he, L, hk⟩ => ⟨v, L, he, hk⟩
  unfold V37
  obtain ⟨z1, z2, z3⟩ := h.kl
  refine cl_of ok52 (known52 h) fun e w1 ⟨v, he, p, c, hv, hO, hf, k1⟩ => ⟨p, lvs.flatten.length, c, by rw [he, hv], ?_⟩
  refine cl_of ok55 (tidyR _ w1 p c _ (own_rdl hO) (by omega) hO.le.1) fun e w2 ⟨v2, L, he, hT, g, gc, hv2, hO2, hf2, k2⟩ => ⟨g, L.length, gc, by rw [he, hv2], L, hT, g, gc, rfl, hO2, fun i hi => by have := hf2 i hi; have := k1.size; omega, k1.then0 k2⟩
/-- all that a store into the Watch's own block leaves -/
theorem Dm.of {M1 M2 : Nat → Prop} {p : Option Addr} {n c : Nat} {q : Option Addr} {k d : Nat} {hs ks : List Sl} (h : Dm M w m C lvs rest clash nv) {C' lvs' : List (List Int)} {rest' clash' : Bool}
    (hB : Blk w' m [I nv, .slice p n c, .slice q k d, .bool rest', .bool clash'] 83) (hL1 : LL M1 w' p n c hs C') (hL2 : LL M2 w' q k d ks lvs') (hk : Keep M w w')
    (h1 : ∀ i, i < w'.heap.size → M1 i → (M i ∨ w.heap.size ≤ i) ∧ ¬ M2 i ∧ i ≠ m) (h2 : ∀ i, i < w'.heap.size → M2 i → (M i ∨ w.heap.size ≤ i) ∧ i ≠ m)
    (cf : FormedF nv C') (cl : ∀ es ∈ C', es.length ≤ 17592186044416) (ne : lvs' ≠ []) (nd : lvs'.flatten.Nodup) (cons : Cons lvs'.flatten) (wi : ∀ x ∈ lvs'.flatten, Wi nv x) (pos : ∀ (i : Nat) (L : List Int), lvs'[i]? = some L → 0 < i → L ≠ []) :
    ∃ M', AfD M w m C' lvs' rest' clash' nv M' w' := by
  refine ⟨fun i => i < w'.heap.size ∧ (M i ∨ w.heap.size ≤ i), ⟨⟨p, n, c, q, k, d, hs, ks, fun i => i < w'.heap.size ∧ M1 i, fun i => i < w'.heap.size ∧ M2 i, hB, hL1.mono fun i h h' => ⟨h, h'⟩, hL2.mono fun i h h' => ⟨h, h'⟩, fun i hi => ?_, fun i hi => ?_⟩, ⟨hB.lt, Or.inl h.own⟩, fun i hi => hi.1, cf, cl, ne, nd, cons, wi, pos⟩, fun i hi => hi.2, hk⟩
  · obtain ⟨a, b, c⟩ := h1 i hi.1 hi.2
    exact ⟨⟨hi.1, a⟩, fun hh => b hh.2, c⟩
  · obtain ⟨a, c⟩ := h2 i hi.1 hi.2
    exact ⟨⟨hi.1, a⟩, c⟩
theorem add33 (h : Dm M w m C lvs rest clash nv) {p : Option Addr} {n c : Nat} {cs : List Int} (hR : RdL w p n cs) (hn : n ≤ 17592186044416) (hC : C.length + 1 ≤ cap) :
    Calls Try.prog 33 #[.pointer (some ⟨m, 0, none⟩), .slice p n c] w fun e w' => (e = .returned (I 1) ∧ (¬ ∀ x ∈ cs, Wi nv x) ∧ Keep None w w') ∨
      (e = .returned (I 0) ∧ (∀ x ∈ cs, Wi nv x) ∧ ∃ M', AfD M w m (C ++ [cs]) lvs false clash nv M' w') := by
  refine (V33_calls (some ⟨m, 0, none⟩) p n c w (fun v w' => (v = I 1 ∧ (¬ ∀ x ∈ cs, Wi nv x) ∧ Keep None w w') ∨
      (v = I 0 ∧ (∀ x ∈ cs, Wi nv x) ∧ ∃ M', AfD M w m (C ++ [cs]) lvs false clash nv M' w')) ?_).mono fun e w' ⟨v, he, hk⟩ => ?_
  rotate_left
  · rcases hk with ⟨rfl, hk⟩ | ⟨rfl, hk⟩
    · exact Or.inl ⟨he, hk⟩
    · exact Or.inr ⟨he, hk⟩
  unfold V33
  have hcap : cap = 8796093022208 := rfl
  refine cl_of ok51 (within51 h hR hn) fun e w1 ⟨r, he, hr, k1⟩ => ⟨r, he, ?_⟩
  refine pif_of (fun hq => Or.inl ⟨rfl, fun hh => ?_, k1⟩) fun hq => ?_
  · rw [hr.2 hh] at hq; cases hq
  have hw := hr.1 (by simpa using hq)
  have h' := h.keep0 k1.drew
  obtain ⟨p0, n0, c0, q, k, d, hs, ks, M1, M2, hB, hL1, hL2, s1, s2⟩ := h'.blk
  have z1 := k1.size
  have zd : w1.drew.heap.size = w1.heap.size := rfl
  refine nn_of (ldC_of (x := p0) (n := n0) (c := c0) (by rw [add_mk, add_mk]; exact hB.cell 1) ?_)
  refine cl_of ok13 (copy (hR.keep0 k1.drew) hn) fun e w2 ⟨v2, he, p2, c2, hv2, hO2, hf2, k2⟩ => ⟨p2, cs.length, c2, by rw [he, hv2], ?_⟩
  have z2 := k2.size
  refine ⟨ldC_of (x := p0) (n := n0) (c := c0) (by rw [add_mk, add_mk]; exact (hB.keep0 k2).cell 1) rfl, ?_⟩
  refine alc_at fun b11 w3 hb11 hB11 k3 => ?_
  have z3 := k3.size
  have k13 : Keep None w w3 := (k1.drew.then0 k2).then0 k3
  refine ⟨ldC_of (x := p0) (n := n0) (c := c0) (by rw [add_mk, add_mk]; exact ((hB.keep0 k2).keep0 k3).cell 1) rfl, ?_⟩
  have hm : m < w.heap.size := h.lt m h.own
  have m1 : ∀ i, M1 i → i < w.heap.size := fun i hi => h.lt i (s1 i hi).1
  have hl1 := hL1.len
  refine ((hL1.keep0 k2).keep0 k3).app (x := (p2, cs.length, c2)) (M' := fun i => M1 i ∨ w.heap.size ≤ i) (hO2.keep0 k3) (fun j hj => ⟨Or.inr (by have := hf2 j hj; omega), fun hh => by have := hf2 j hj; have := m1 j hh; omega⟩) (fun i h => Or.inl h) (by omega) hB11 fun p' c' w4 hL4 k4 => ?_
  have hB4 := ((hB.keep0 k2).keep0 k3).keep k4 fun hh => (s1 m hh).2.2 rfl
  have hL24 := ((hL2.keep0 k2).keep0 k3).keep k4 fun i hi hh => (s1 i hh).2.1 hi
  have z4 := k4.size
  refine stf2 hB4 (by simp) rfl fun w5 hB5 k5 z5 => ?_
  refine stf hB5 (by simp) rfl fun w6 hB6 k6 z6 => Or.inr ⟨rfl, hw, ?_⟩
  have kk : Keep M w w6 := (((k13.none (S := M)).trans k4 fun i hi hh => (s1 i hh).1).trans k5 fun i hi hh => by rw [show i = m from hh]; exact h.own).trans k6 fun i hi hh => by rw [show i = m from hh]; exact h.own
  have hmn : ∀ i, i < w4.heap.size ∧ ((M1 i ∨ w.heap.size ≤ i) ∨ w3.heap.size ≤ i) → (M i ∨ w.heap.size ≤ i) ∧ ¬ M2 i ∧ i ≠ m := fun i hi => by
    rcases hi.2 with (hh | hh) | hh
    · exact ⟨Or.inl (s1 i hh).1, (s1 i hh).2⟩
    · exact ⟨Or.inr hh, fun h2 => by have := h.lt i (s2 i h2).1; omega, by omega⟩
    · exact ⟨Or.inr (by omega), fun h2 => by have := h.lt i (s2 i h2).1; omega, by omega⟩
  refine h.of hB6 ((hL4.keep k5 fun i hi hh => (hmn i hi).2.2 hh).keep k6 fun i hi hh => (hmn i hi).2.2 hh) ((hL24.keep k5 fun i hi hh => (s2 i hi).2 hh).keep k6 fun i hi hh => (s2 i hi).2 hh) kk
    (fun i _ hi => hmn i hi) (fun i _ hi => ⟨Or.inl (s2 i hi).1, (s2 i hi).2⟩) ⟨h.cf.1, h.cf.2.1, fun es he x hx => ?_⟩ (fun es he => ?_) h.ne h.nd h.cons h.wi h.pos
  · rcases List.mem_append.1 he with he | he
    · exact h.cf.2.2 es he x hx
    · rw [List.mem_singleton.1 he] at hx; exact hw x hx
  · rcases List.mem_append.1 he with he | he
    · exact h.cl es he
    · rw [List.mem_singleton.1 he, hR.len]; exact hn
/-- Assume's answer -/
def Dsm (M : Nat → Prop) (w : World) (m : Nat) (C lvs : List (List Int)) (rest clash : Bool) (nv : Nat) (l v : Int) (w' : World) : Prop :=
  (v = 1 ∧ ¬ Wi nv l ∧ Keep None w w') ∨ (v = 3 ∧ Wi nv l ∧ rest = false ∧ Keep None w w') ∨ (v = 50 ∧ Wi nv l ∧ rest = true ∧ (l ∈ lvs.flatten ∨ -l ∈ lvs.flatten) ∧ Keep None w w') ∨
  (v = 0 ∧ Wi nv l ∧ rest = true ∧ (l ∉ lvs.flatten ∧ -l ∉ lvs.flatten) ∧ ∃ M', AfD M w m C (lvs ++ [[l]]) false clash nv M' w')
theorem assume34 (h : Dm M w m C lvs rest clash nv) (l : Int) : Calls Try.prog 34 #[.pointer (some ⟨m, 0, none⟩), I l] w fun e w' => ∃ v : Int, e = .returned (I v) ∧ Dsm M w m C lvs rest clash nv l v w' := by
  refine (V34_calls (some ⟨m, 0, none⟩) l w (fun r w' => ∃ v : Int, r = I v ∧ Dsm M w m C lvs rest clash nv l v w') ?_).mono fun e w' ⟨r, he, v, hv, hk⟩ => ⟨v, by rw [he, hv], hk⟩
  unfold V34
  obtain ⟨z1, z2, z3⟩ := h.kl
  have hm : m < w.heap.size := h.lt m h.own
  refine alc_at fun b3 w1 hb3 hB3 k1 => ?_
  have hRd : RdL w1 (some ⟨b3, 0, none⟩) 1 [l] := own_rdl (c := 1) (Or.inr ⟨b3, [I l], rfl, hB3, Nat.le_refl _, by decide, rfl, rfl⟩)
  refine cl_of ok51 (within51 (h.keep0 k1) hRd (by decide)) fun e w2 ⟨r, he, hr, k2⟩ => ⟨r, he, ?_⟩
  have k12 := k1.then0 k2
  refine pif_of (fun hq => ⟨1, rfl, Or.inl ⟨rfl, fun hw => ?_, k12⟩⟩) fun hq => ?_
  · rw [hr.2 (fun x hx => by rw [List.mem_singleton.1 hx]; exact hw)] at hq; cases hq
  have hw : Wi nv l := hr.1 (by simpa using hq) l (by simp)
  have h2 := h.keep0 k12
  obtain ⟨p0, n0, c0, q, k, d, hs, ks, M1, M2, hB, hL1, hL2, s1, s2⟩ := h2.blk
  refine nn_of (ldB_of (x := rest) (by rw [add_mk]; exact hB.cell 3) ?_)
  refine pif_of (fun hq2 => ⟨3, rfl, Or.inr (Or.inl ⟨rfl, hw, by simpa using hq2, k12⟩)⟩) fun hq2 => ?_
  have hrest : rest = true := by simpa using hq2
  refine cl_of ok52 (known52 h2) fun e w3 ⟨v3, he, p3, c3, hv3, hO3, hf3, k3⟩ => ⟨p3, lvs.flatten.length, c3, by rw [he, hv3], ?_⟩
  have k13 := k12.then0 k3
  have hR3 := own_rdl hO3
  refine cl_of ok53 (has53 hR3 (by omega) l) fun e w4 ⟨r1, he, hr1, k4⟩ => ⟨r1, he, ?_⟩
  have k14 := k13.then0 k4
  have en : IntKind.wrap .i64 (0 - l) = -l := by
    have := hw.2.1; have := hw.2.2
    rw [IntKind.wrap_i64]; omega
  rw [en]
  have yes : ∀ {W : World}, Keep None w W → (l ∈ lvs.flatten ∨ -l ∈ lvs.flatten) → ∃ v : Int, (Value.int .i64 50 : Value) = I v ∧ Dsm M w m C lvs rest clash nv l v W := fun {W} kW ho => ⟨50, rfl, Or.inr (Or.inr (Or.inl ⟨rfl, hw, hrest, ho, kW⟩))⟩
  refine gd_of (fun hb => ?_) fun hb => ?_
  rotate_left
  · have hb : r1 = true := by simpa using hb
    subst hb
    exact pif_t rfl (yes k14 (Or.inl (hr1.1 rfl)))
  have hb : r1 = false := by simpa using hb
  subst hb
  refine cl_of ok53 (has53 (hR3.keep0 k4) (by omega) (-l)) fun e w5 ⟨r2, he, hr2, k5⟩ => ⟨r2, he, ?_⟩
  have k15 := k14.then0 k5
  refine pif_of (fun hq3 => ?_) fun hq3 => ?_
  · have hq3 : r2 = true := by simpa using hq3
    exact yes k15 (Or.inr (hr2.1 hq3))
  have hr2f : r2 = false := by simpa using hq3
  have n1 : l ∉ lvs.flatten := fun hh => by have := hr1.2 hh; cases this
  have n2 : -l ∉ lvs.flatten := fun hh => by have := hr2.2 hh; rw [hr2f] at this; cases this
  have k25 : Keep None w2 w5 := (k3.then0 k4).then0 k5
  have hB5 := hB.keep0 k25
  refine nn_of (ldC_of (x := q) (n := k) (c := d) (by rw [add_mk]; exact hB5.cell 2) ?_)
  refine alc_at fun b25 w7 hb25 hB25 k7 => ?_
  refine alc_at fun b26 w8 hb26 hB26 k8 => ?_
  have k28 : Keep None w2 w8 := (k25.then0 k7).then0 k8
  have k18 : Keep None w w8 := k12.then0 k28
  have y2 := k12.size; have y5 := k25.size; have y7 := k7.size; have y8 := k8.size
  have m2 : ∀ i, M2 i → i < w.heap.size := fun i hi => h.lt i (s2 i hi).1
  have hlk := hL2.len
  refine (hL2.keep0 k28).app (x := (some ⟨b25, 0, none⟩, 1, 1)) (es := [l]) (M' := fun i => M2 i ∨ w.heap.size ≤ i) (Or.inr ⟨b25, [I l], rfl, hB25.keep0 k8, Nat.le_refl _, (by show 1 ≤ maxLen; decide), rfl, rfl⟩)
    (fun j ⟨a, ha, hj⟩ => by injection ha with ha; subst ha; subst hj; exact ⟨Or.inr (by show w.heap.size ≤ b25; omega), fun hh => by have : b25 < w.heap.size := m2 _ hh; omega⟩) (fun i h => Or.inl h) (by omega) hB26 fun p' c' w9 hL9 k9 => ?_
  have hB9 := (hB.keep0 k28).keep k9 fun hh => (s2 m hh).2 rfl
  have hL19 := (hL1.keep0 k28).keep k9 fun i hi hh => (s1 i hi).2.1 hh
  have y9 := k9.size
  refine stf hB9 (by simp) rfl fun w10 hB10 k10 z10 => ?_
  refine stf hB10 (by simp) rfl fun w11 hB11 k11 z11 => ⟨0, rfl, Or.inr (Or.inr (Or.inr ⟨rfl, hw, hrest, ⟨n1, n2⟩, ?_⟩))⟩
  have kk : Keep M w w11 := (((k18.none (S := M)).trans k9 fun i hi hh => (s2 i hh).1).trans k10 fun i hi hh => by rw [show i = m from hh]; exact h.own).trans k11 fun i hi hh => by rw [show i = m from hh]; exact h.own
  have hmn : ∀ i, i < w9.heap.size ∧ ((M2 i ∨ w.heap.size ≤ i) ∨ w8.heap.size ≤ i) → (M i ∨ w.heap.size ≤ i) ∧ ¬ M1 i ∧ i ≠ m := fun i hi => by
    rcases hi.2 with (hh | hh) | hh
    · exact ⟨Or.inl (s2 i hh).1, fun h1 => (s1 i h1).2.1 hh, (s2 i hh).2⟩
    · exact ⟨Or.inr hh, fun h1 => by have := h.lt i (s1 i h1).1; omega, by omega⟩
    · exact ⟨Or.inr (by omega), fun h1 => by have := h.lt i (s1 i h1).1; omega, by omega⟩
  have hfl : (lvs ++ [[l]]).flatten = lvs.flatten ++ [l] := by simp
  refine h.of hB11 ((hL19.keep k10 fun i hi hh => (s1 i hi).2.2 hh).keep k11 fun i hi hh => (s1 i hi).2.2 hh) ((hL9.keep k10 fun i hi hh => (hmn i hi).2.2 hh).keep k11 fun i hi hh => (hmn i hi).2.2 hh) kk
    (fun i _ hi => ⟨Or.inl (s1 i hi).1, fun hh => (hmn i hh).2.1 hi, (s1 i hi).2.2⟩) (fun i _ hi => ⟨(hmn i hi).1, (hmn i hi).2.2⟩) h.cf h.cl (by simp) ?_ ?_ ?_ ?_
  · rw [hfl]
    exact List.nodup_append.2 ⟨h.nd, by simp, fun x hx y hy => by rw [List.mem_singleton.1 hy]; exact fun e => n1 (e ▸ hx)⟩
  · rw [hfl]
    intro x hx hn
    rcases List.mem_append.1 hx with a | a <;> rcases List.mem_append.1 hn with b | b
    · exact h.cons x a b
    · have e := List.mem_singleton.1 b
      exact n2 (by rw [← e, Int.neg_neg]; exact a)
    · have e := List.mem_singleton.1 a
      exact n2 (by rw [← e]; exact b)
    · have e1 := List.mem_singleton.1 a
      have e2 := List.mem_singleton.1 b
      have := hw.1; omega
  · rw [hfl]
    intro x hx
    rcases List.mem_append.1 hx with a | a
    · exact h.wi x a
    · rw [List.mem_singleton.1 a]; exact hw
  · intro i L hL hi
    by_cases hlt : i < lvs.length
    · rw [List.getElem?_append_left hlt] at hL
      exact h.pos i L hL hi
    · rw [List.getElem?_append_right (by omega)] at hL
      have := List.mem_of_getElem? hL
      rw [List.mem_singleton.1 this]; simp
theorem undo36 (h : Dm M w m C lvs rest clash nv) : Calls Try.prog 36 #[.pointer (some ⟨m, 0, none⟩)] w fun e w' => (e = .returned (I 3) ∧ lvs.length = 1 ∧ Keep None w w') ∨
      (e = .returned (I 0) ∧ lvs.length ≠ 1 ∧ ∃ M', AfD M w m C lvs.dropLast false clash nv M' w') := by
  refine (V36_calls (some ⟨m, 0, none⟩) w (fun v w' => (v = I 3 ∧ lvs.length = 1 ∧ Keep None w w') ∨
      (v = I 0 ∧ lvs.length ≠ 1 ∧ ∃ M', AfD M w m C lvs.dropLast false clash nv M' w')) ?_).mono fun e w' ⟨v, he, hk⟩ => ?_
  rotate_left
  · rcases hk with ⟨rfl, hk⟩ | ⟨rfl, hk⟩
    · exact Or.inl ⟨he, hk⟩
    · exact Or.inr ⟨he, hk⟩
  unfold V36
  obtain ⟨z1, z2, z3⟩ := h.kl
  obtain ⟨p0, n0, c0, q, k, d, hs, ks, M1, M2, hB, hL1, hL2, s1, s2⟩ := h.blk
  have hlk := hL2.len
  have hne : lvs.length ≠ 0 := fun e => h.ne (List.eq_nil_of_length_eq_zero e)
  refine nn_of (ldC_of (x := q) (n := k) (c := d) (by rw [add_mk]; exact hB.cell 2) ?_)
  refine pif_of (fun hq => Or.inl ⟨rfl, by have : (k : Int) = 1 := by simpa using hq
                                           omega, Keep.refl _ _⟩) fun hq => ?_
  have hk1 : k ≠ 1 := fun e => by subst e; simp at hq
  refine nn_of (ldC_of (x := q) (n := k) (c := d) (by rw [add_mk]; exact hB.drew.cell 2) ?_)
  refine nn_of (ldC_of (x := q) (n := k) (c := d) (by rw [add_mk]; exact hB.drew.cell 2) ?_)
  have ew : IntKind.wrap .i64 ((k : Int) - 1) = ((k - 1 : Nat) : Int) := by rw [IntKind.wrap_i64]; omega
  have hkd := hL2.own.le.1
  rw [ew, slA_z, Int.toNat_natCast, Nat.sub_zero, Nat.sub_zero]
  refine ⟨by omega, by omega, ?_⟩
  have kd : Keep None w w.drew := (Keep.refl _ _).drew
  refine stf (hB.keep0 kd) (by simp) rfl fun w1 hB1 k1 z1' => ?_
  refine stf hB1 (by simp) rfl fun w2 hB2 k2 z2' => Or.inr ⟨rfl, by omega, ?_⟩
  have kk : Keep M w w2 := ((kd.none (S := M)).trans k1 fun i hi hh => by rw [show i = m from hh]; exact h.own).trans k2 fun i hi hh => by rw [show i = m from hh]; exact h.own
  have hsub : ∀ x ∈ lvs.dropLast.flatten, x ∈ lvs.flatten := fun x hx => by
    obtain ⟨L, hL, hx⟩ := List.mem_flatten.1 hx
    exact List.mem_flatten.2 ⟨L, List.dropLast_subset _ hL, hx⟩
  have hcut : LL M2 w2 q (k - 1) d (ks.take (k - 1)) lvs.dropLast := by
    have := (((hL2.keep0 kd).keep k1 fun i hi hh => (s2 i hi).2 hh).keep k2 fun i hi hh => (s2 i hi).2 hh).cut (m := k - 1) (by omega)
    rw [List.dropLast_eq_take, hlk]; exact this
  refine h.of hB2 (((hL1.keep0 kd).keep k1 fun i hi hh => (s1 i hi).2.2 hh).keep k2 fun i hi hh => (s1 i hi).2.2 hh) hcut kk
    (fun i _ hi => ⟨Or.inl (s1 i hi).1, (s1 i hi).2⟩) (fun i _ hi => ⟨Or.inl (s2 i hi).1, (s2 i hi).2⟩) h.cf h.cl ?_ ?_ (fun x hx hn => h.cons x (hsub x hx) (hsub _ hn)) (fun x hx => h.wi x (hsub x hx)) ?_
  · intro e
    have : lvs.dropLast.length = 0 := by rw [e]; rfl
    rw [List.length_dropLast] at this; omega
  · have e : lvs.flatten = lvs.dropLast.flatten ++ lvs.getLast h.ne := by
      conv => lhs; rw [← List.dropLast_concat_getLast h.ne]
      simp
    have := h.nd
    rw [e] at this
    exact (List.nodup_append.1 this).1
  · intro i L hL hi
    rw [List.dropLast_eq_take, List.getElem?_take] at hL
    split at hL
    · exact h.pos i L hL hi
    · cases hL
end
/-- New's answer -/
def Nda (w : World) (nv : Int) (css : List (List Int)) (q : Option Addr) (v : Int) (w' : World) : Prop :=
  (q = none ∧ v = 1 ∧ ¬ FormedF nv css ∧ Keep None w w') ∨
  ∃ m M, q = some ⟨m, 0, none⟩ ∧ v = 0 ∧ FormedF nv css ∧ Dm M w' m css [[]] false false nv.toNat ∧ (∀ i, M i → w.heap.size ≤ i) ∧ Keep None w w'
theorem new32 {B : Nat → Prop} {w : World} {nv : Int} {p : Option Addr} {n c : Nat} {css : List (List Int)} (hC : RdC B w p n css) (hn : n ≤ 8796093022208) (hl : ∀ es ∈ css, es.length ≤ 17592186044416) :
    Calls Try.prog 32 #[.agg #[I nv, .slice p n c]] w fun e w' => ∃ q v, e = .returned (.tuple #[.pointer q, I v]) ∧ Nda w nv css q v w' := by
  refine (V32_calls nv p n c w (fun r w' => ∃ q v, r = .tuple #[.pointer q, I v] ∧ Nda w nv css q v w') ?_).mono fun e w' ⟨r, he, q, v, hv, hk⟩ => ⟨q, v, by rw [he, hv], hk⟩
  unfold V32
  refine alc_at fun b2 w1 hb2 hB2 k1 => ?_
  refine ldI_of (x := nv) (by rw [add_mk]; exact hB2.cell 0) ?_
  refine ldC_of (x := p) (n := n) (c := c) (by rw [add_mk]; exact hB2.cell 1) ?_
  refine cl_of ok50 (formed50 (hC.keep0 k1) (by omega) hl) fun e w2 ⟨r, he, hr, k2⟩ => ⟨r, he, ?_⟩
  have k12 := k1.then0 k2
  refine pif_of (fun hq => ⟨none, 1, rfl, Or.inl ⟨rfl, rfl, fun hf => ?_, k12⟩⟩) fun hq => ?_
  · rw [hr.2 hf] at hq; cases hq
  have hf := hr.1 (by simpa using hq)
  have hf' := hf
  obtain ⟨h0, h1, hw⟩ := hf'
  obtain ⟨a, rfl⟩ := Int.eq_ofNat_of_zero_le h0
  have hB2' := hB2.keep0 k2
  refine ldI_of (x := (a : Int)) (by rw [add_mk]; exact hB2'.cell 0) ?_
  refine ldC_of (x := p) (n := n) (c := c) (by rw [add_mk]; exact hB2'.cell 1) ?_
  refine cl_of ok11 (copyF11 (hC.keep0 k12) hn hl) fun e w3 ⟨p', c', hs, he, hL, k3⟩ => ⟨a, p', n, c', he, ?_⟩
  refine alc_at fun b15 w4 hb15 hB15 k4 => ?_
  refine alc_at fun b16 w5 hb16 hB16 k5 => ?_
  have y2 := k12.size; have y3 := k3.size; have y4 := k4.size; have y5 := k5.size
  have l16 := hB16.lt; have l15 := hB15.lt
  have k15 : Keep None w w5 := ((k12.then0 k3).then0 k4).then0 k5
  refine ⟨some ⟨b16, 0, none⟩, 0, rfl, Or.inr ⟨b16, fun i => w.heap.size ≤ i ∧ i < w5.heap.size, rfl, rfl, hf, ⟨⟨p', n, c', some ⟨b15, 0, none⟩, 1, 1, hs, [(none, 0, 0)], fun i => w2.heap.size ≤ i ∧ i < w3.heap.size, fun i => i = b15, hB16, ?_, ?_, fun i hi => ⟨⟨by omega, by omega⟩, by omega, by omega⟩, fun i hi => ⟨⟨by omega, by omega⟩, by omega⟩⟩, ⟨by omega, l16⟩, fun i hi => hi.2, hf, hl, by simp, by simp, fun x hx => by simp at hx, fun x hx => by simp at hx, fun i L hL hi => ?_⟩, fun i hi => hi.1, k15⟩⟩
  · exact ((hL.mono (M' := fun i => w2.heap.size ≤ i ∧ i < w3.heap.size) fun i h1 h2 => ⟨h2, h1⟩).keep0 k4).keep0 k5
  · refine ⟨Or.inr ⟨b15, [.slice none 0 0], rfl, hB15.keep0 k5, Nat.le_refl _, by decide, rfl, rfl⟩, fun i ⟨x, hx, hi⟩ => by injection hx with hx; subst hx; exact hi.symm, rfl, fun i x es h1 h2 => ?_⟩
    have e1 := List.mem_of_getElem? h1
    have e2 := List.mem_of_getElem? h2
    rw [List.mem_singleton.1 e1, List.mem_singleton.1 e2]
    exact ⟨Own.nil _ _ _, fun j ⟨x, hx, _⟩ => by cases hx⟩
  · rw [List.getElem?_eq_none (by simp; omega)] at hL; cases hL
end Go.Proofs.Ytjpblaenebodlaa.Wt

/- The document's Watch: Run. -/
set_option linter.unusedVariables false
set_option linter.unusedSimpArgs false
set_option linter.unusedSectionVars false
set_option maxRecDepth 100000
namespace Go.Proofs.Ytjpblaenebodlaa.Wt
open Go Go.Proofs.Ytjpblaenebodlaa.Vc Go.Proofs.Ytjpblaenebodlaa.T
open Go.Proofs.Ytjpblaenebodlaa.Apart (RdL own_rdl wrap_nat getE own_len copy same take_snoc Sl sv New LL Gro)
open Go.Proofs.Ytjpblaenebodlaa.Lits (fl fl_iff idx idx_inj idx_range Ans ans_of indexP formedP tidyP Td Srt tidyR)

section
variable {M : Nat → Prop} {w w' : World} {m : Nat} {C lvs : List (List Int)} {rest clash : Bool} {nv : Nat}
/-- what Run answers and leaves -/
def RunD (M : Nat → Prop) (w : World) (m : Nat) (C lvs : List (List Int)) (nv : Nat) (v : Bool) (w' : World) : Prop :=
  ∃ lvs' M', AfD M w m C lvs' v (!v) nv M' w' ∧ lvs'.length = lvs.length ∧ lvs'.dropLast = lvs.dropLast ∧ (v = true ↔ ¬ Clash C lvs.flatten) ∧ (v = true → ∀ x, x ∈ lvs'.flatten ↔ Der C lvs.flatten x) ∧ (v = false → lvs' = lvs)
theorem run35 (h : Dm M w m C lvs rest clash nv) (hCl : C.length ≤ 17592186044416) : Calls Try.prog 35 #[.pointer (some ⟨m, 0, none⟩)] w fun e w' => ∃ v : Bool, e = .returned (.bool v) ∧ RunD M w m C lvs nv v w' := by
  refine (V35_calls (some ⟨m, 0, none⟩) w (fun r w' => ∃ v : Bool, r = .bool v ∧ RunD M w m C lvs nv v w') ?_).mono fun e w' ⟨r, he, v, hv, hk⟩ => ⟨v, by rw [he, hv], hk⟩
  unfold V35
  obtain ⟨z1, z2, z3⟩ := h.kl
  have hm : m < w.heap.size := h.lt m h.own
  refine cl_of ok52 (known52 h) fun e w1 ⟨v1, he, p3, c3, hv1, hO3, hf3, k1⟩ => ⟨p3, lvs.flatten.length, c3, by rw [he, hv1], ?_⟩
  have h1 := h.keep0 k1
  obtain ⟨p0, n0, c0, q, k, d, hs, ks, M1, M2, hB, hL1, hL2, s1, s2⟩ := h1.blk
  have y1 := k1.size
  have hl1 := hL1.len
  have hlk := hL2.len
  refine nn_of (ldI_of (x := (nv : Int)) (by rw [add_mk, add_mk]; exact hB.cell 0) ?_)
  refine ldC_of (x := p0) (n := n0) (c := c0) (by rw [add_mk, add_mk]; exact hB.cell 1) ?_
  refine cl_of ok54 (close54 (LLrdc (hL1.mono (M' := fun i => i < w1.heap.size) fun i h _ => h)) (by omega) h.cl h.cf (own_rdl hO3) (by omega) h.wi h.nd h.cons (fun j hj _ => hO3.lt j hj) fun i h => h) fun e w2 ⟨cl, q9, L, lc, he, k2, hRL, hLl, hq9, hc1, hc2⟩ => ⟨q9, L.length, lc, cl, 0, he, ?_⟩
  have y2 := k2.size
  have k12 := k1.then0 k2
  refine stf (hB.keep0 k2) (by simp) rfl fun w3 hB3 k3 y3 => ?_
  refine stf hB3 (by simp) rfl fun w4 hB4 k4 y4 => ?_
  have mm : ∀ {w5 w6 : World}, Keep (One m) w5 w6 → Keep M w5 w6 := fun kk => kk.mono fun i _ hi => by rw [show i = m from hi]; exact h.own
  have kM4 : Keep M w w4 := ((k12.none (S := M)).trans (mm k3) fun _ _ h => h).trans (mm k4) fun _ _ h => h
  have hL14 := ((hL1.keep0 k2).keep k3 fun i hi hh => (s1 i hi).2.2 hh).keep k4 fun i hi hh => (s1 i hi).2.2 hh
  have hL24 := ((hL2.keep0 k2).keep k3 fun i hi hh => (s2 i hi).2 hh).keep k4 fun i hi hh => (s2 i hi).2 hh
  have K34 : Keep (One m) w2 w4 := k3.trans k4 fun i _ h => h
  refine pif_of (fun hq => ?_) fun hq => ?_
  · subst hq
    obtain ⟨M', hA⟩ := h.of hB4 hL14 hL24 kM4 (fun i _ hi => ⟨Or.inl (s1 i hi).1, (s1 i hi).2⟩) (fun i _ hi => ⟨Or.inl (s2 i hi).1, (s2 i hi).2⟩) h.cf h.cl h.ne h.nd h.cons h.wi h.pos
    exact ⟨false, rfl, lvs, M', hA, rfl, rfl, ⟨fun h => (by cases h), fun h => absurd (hc1 rfl) h⟩, fun h => (by cases h), fun _ => rfl⟩
  subst hq
  obtain ⟨hder, hLn, hncl, hLc, hLw⟩ := hc2 rfl
  have hkd : k ≠ 0 := fun e => h.ne (List.eq_nil_of_length_eq_zero (by omega))
  have ew : IntKind.wrap .i64 ((k : Int) - 1) = ((k - 1 : Nat) : Int) := by rw [IntKind.wrap_i64]; omega
  refine nn_of (ldC_of (x := q) (n := k) (c := d) (by rw [add_mk]; exact hB4.cell 2) ?_)
  refine nn_of (ldC_of (x := q) (n := k) (c := d) (by rw [add_mk]; exact hB4.cell 2) ?_)
  rw [ew]
  refine hL24.ix (show k - 1 < k by omega) fun a x es hx hes ha hOx hMx => ldC_of ha ?_
  have hxl := own_len hOx
  have hlast : lvs = lvs.dropLast ++ [es] := by
    have e1 : lvs.getLast h.ne = es := by
      rw [List.getLast_eq_getElem]
      have := (List.getElem?_eq_some_iff.1 hes).2
      simp only [hlk] at this ⊢
      exact this
    rw [← e1, List.dropLast_concat_getLast]
  have hflat : lvs.flatten = lvs.dropLast.flatten ++ es := by
    conv => lhs; rw [hlast]
    simp
  have hesl : es.length ≤ lvs.flatten.length := by rw [hflat, List.length_append]; omega
  refine cl_of ok13 (copy (own_rdl hOx) (by omega)) fun e w5 ⟨v5, he, p5, c5, hv5, hO5, hf5, k5⟩ => ⟨p5, es.length, c5, by rw [he, hv5], ?_⟩
  have y5 := k5.size
  have hG5 : Gro w4 w5 p5 es.length c5 es := ⟨hO5, hf5, k5⟩
  have hRL4 : RdL w4 q9 L.length L := hRL.keep K34 fun j hj hh => by
    have hjm : j = m := hh
    have := hq9 j hj; omega
  have hRK4 : RdL w4 p3 lvs.flatten.length lvs.flatten := ((own_rdl hO3).keep0 k2).keep K34 fun j hj hh => by
    have hjm : j = m := hh
    have := hf3 j hj; omega
  refine lp_of (fun s W => ∃ (i : Nat), s.2.1 = i ∧ i ≤ L.length ∧ Gro w4 W s.1.1 s.1.2.1 s.1.2.2 (es ++ (L.take i).filter fun x => decide (x ∉ lvs.flatten))) (fun s _ => (L.length - s.2.1).toNat) ⟨0, rfl, Nat.zero_le _, by rw [List.take_zero, List.filter_nil, List.append_nil]; exact hG5⟩ ?_
  rintro ⟨⟨p6, n6, c6⟩, i', ⟨⟩⟩ W ⟨i, hi', hi, hG⟩
  dsimp only at hi' hG ⊢
  subst hi'
  have hgl := hG.len
  have hfl : ((L.take i).filter fun x => decide (x ∉ lvs.flatten)).length ≤ L.length := Nat.le_trans (List.length_filter_le _ _) (by rw [List.length_take]; omega)
  rw [List.length_append] at hgl
  refine pif_of (fun hlt => ?_) fun hge => ?_
  · have hlt : i < L.length := by simpa using hlt
    rw [wrap_nat i (by omega)]
    refine ⟨fun s W' => Gro w4 W' s.1.1 s.1.2.1 s.1.2.2 (es ++ (L.take (i + 1)).filter fun x => decide (x ∉ lvs.flatten)), ?_, ?_⟩
    rotate_left
    · rintro ⟨⟨p7, n7, c7⟩, ⟨⟩⟩ W' hG'
      exact ⟨⟨i + 1, rfl, hlt, hG'⟩, by omega⟩
    refine (hRL4.keep0 hG.keep).ix hlt fun a1 y hy hya => ldI_of hya ?_
    refine cl_of ok53 (has53 (hRK4.keep0 hG.keep) (by omega) y) fun e w8 ⟨r, he, hr, k8⟩ => ⟨r, he, ?_⟩
    have htk : (L.take (i + 1)).filter (fun x => decide (x ∉ lvs.flatten)) = (L.take i).filter (fun x => decide (x ∉ lvs.flatten)) ++ if y ∉ lvs.flatten then [y] else [] := by
      rw [take_snoc hy, List.filter_append]
      congr 1
      by_cases hyk : y ∈ lvs.flatten
      · have e1 : decide (y ∉ lvs.flatten) = false := decide_eq_false fun hh => hh hyk
        rw [if_neg fun hh => hh hyk]
        simp only [List.filter_cons, e1, List.filter_nil]; rfl
      · have e1 : decide (y ∉ lvs.flatten) = true := decide_eq_true hyk
        rw [if_pos hyk]
        simp only [List.filter_cons, e1, List.filter_nil]; rfl
    have hG8 := hG.keep0 k8
    refine pif_of (fun hq => ?_) fun hq => ?_
    · have hnk : y ∉ lvs.flatten := fun hh => by rw [hr.2 hh] at hq; cases hq
      refine ((hRL4.keep0 hG.keep).keep0 k8).ix hlt fun a2 y2 hy2 hya2 => ldI_of hya2 ?_
      rw [hy] at hy2; injection hy2 with hy2; subst hy2
      refine hG8.app (by omega) fun p' c' w' hG' => ?_
      show Gro w4 w' p' (n6 + 1) c' _
      rw [htk, if_pos hnk, ← List.append_assoc]
      exact hG'
    · have hyk : y ∈ lvs.flatten := by
        apply hr.1
        simpa using hq
      show Gro w4 w8 p6 n6 c6 _
      rw [htk, if_neg (fun hh => hh hyk), List.append_nil]
      exact hG8
  · have hge : i = L.length := by simp at hge; omega
    subst hge
    rw [List.take_length] at hG hgl
    generalize hnew : (L.filter fun x => decide (x ∉ lvs.flatten)) = nw at hG hgl
    have kW := hG.keep
    have yW := kW.size
    have hBW := hB4.keep0 kW
    refine nn_of (ldC_of (x := q) (n := k) (c := d) (by rw [add_mk]; exact hBW.cell 2) ?_)
    have m2lt : ∀ i, M2 i → i < w.heap.size := fun i hi => h.lt i (s2 i hi).1
    have hxs : p6 = p6 := rfl
    have hOw := hG.own
    have hg6 : (es ++ nw).length = n6 := by rw [List.length_append]; exact hgl
    refine (hL24.keep0 kW).set (x := (p6, n6, c6)) (es := es ++ nw) (M' := fun i => M2 i ∨ w.heap.size ≤ i) (show k - 1 < k by omega) hOw (fun j hj => ⟨Or.inr (by have := hG.new j hj; omega), fun hh => by have := hG.new j hj; have := m2lt j hh; omega⟩) (fun i h => Or.inl h) fun w9 hL9 k9 y9 => ?_
    have hL19 := (hL14.keep0 kW).keep k9 fun i hi hh => (s1 i hi).2.1 hh
    have hB9 := hBW.keep k9 fun hh => (s2 m hh).2 rfl
    have kM9 : Keep M w w9 := (kM4.then0 kW).trans k9 fun i hi hh => (s2 i hh).1
    have hset : lvs.set (k - 1) (es ++ nw) = lvs.dropLast ++ [es ++ nw] := by
      have : k - 1 = lvs.dropLast.length := by rw [List.length_dropLast]; omega
      conv => lhs; rw [hlast]
      rw [this, List.set_append_right _ _ (Nat.le_refl _), Nat.sub_self]
      rfl
    have hfl9 : (lvs.set (k - 1) (es ++ nw)).flatten = lvs.flatten ++ nw := by
      rw [hset, hflat]; simp
    have hmem : ∀ x, x ∈ (lvs.set (k - 1) (es ++ nw)).flatten ↔ Der C lvs.flatten x := fun x => by
      rw [hfl9, List.mem_append, ← hnew, List.mem_filter, ← hder]
      constructor
      · rintro (hx | ⟨hx, _⟩)
        · exact (hder x).2 (Der.fact hx)
        · exact hx
      · intro hx
        by_cases hk : x ∈ lvs.flatten
        · exact Or.inl hk
        · exact Or.inr ⟨hx, decide_eq_true hk⟩
    have hmn : ∀ i, i < w9.heap.size → (M2 i ∨ w.heap.size ≤ i) → (M i ∨ w.heap.size ≤ i) ∧ ¬ M1 i ∧ i ≠ m := fun i _ hi => by
      rcases hi with hh | hh
      · exact ⟨Or.inl (s2 i hh).1, fun h1 => (s1 i h1).2.1 hh, (s2 i hh).2⟩
      · exact ⟨Or.inr hh, fun h1 => by have := h.lt i (s1 i h1).1; omega, by omega⟩
    obtain ⟨M', hA⟩ := h.of hB9 hL19 hL9 kM9 (fun i hl hi => ⟨Or.inl (s1 i hi).1, fun hh => (hmn i hl hh).2.1 hi, (s1 i hi).2.2⟩) (fun i hl hi => ⟨(hmn i hl hi).1, (hmn i hl hi).2.2⟩) h.cf h.cl (by rw [hset]; simp)
      (by
        rw [hfl9]
        refine List.nodup_append.2 ⟨h.nd, ?_, fun x hx y hy => ?_⟩
        · rw [← hnew]; exact hLn.filter _
        · rw [← hnew, List.mem_filter] at hy
          rintro rfl
          exact (of_decide_eq_true hy.2) hx)
      (fun x hx hn => hLc x ((hder x).2 ((hmem x).1 hx)) ((hder _).2 ((hmem _).1 hn)))
      (fun x hx => hLw x ((hder x).2 ((hmem x).1 hx)))
      (fun i L' hL' hi => by
        rw [List.getElem?_set] at hL'
        split at hL'
        · split at hL'
          · injection hL' with hL'
            rw [← hL']
            intro e
            have e2 := (List.append_eq_nil_iff.1 e).1
            exact h.pos (k - 1) es hes (by omega) e2
          · cases hL'
        · exact h.pos i L' hL' hi)
    exact ⟨true, rfl, _, M', hA, by rw [List.length_set], by rw [hset]; simp, ⟨fun _ => hncl, fun _ => rfl⟩, fun _ => hmem, fun h => by cases h⟩
end
end Go.Proofs.Ytjpblaenebodlaa.Wt
