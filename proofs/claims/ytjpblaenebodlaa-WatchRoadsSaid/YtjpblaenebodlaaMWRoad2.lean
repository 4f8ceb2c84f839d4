/- WatchRoads: the law. -/
import Derived.Test.YtjpblaenebodlaaMWRoad
set_option linter.unusedVariables false
set_option linter.unusedSimpArgs false
set_option linter.unusedSectionVars false
set_option maxRecDepth 100000
namespace Go.Proofs.Ytjpblaenebodlaa.Wt
open Go Go.Proofs.Ytjpblaenebodlaa.Vc Go.Proofs.Ytjpblaenebodlaa.T
open Go.Proofs.Ytjpblaenebodlaa.Apart (RdL own_rdl wrap_nat getE own_len copy same take_snoc Sl sv New LL)
open Go.Proofs.Ytjpblaenebodlaa.Lits (fl fl_iff idx idx_inj idx_range Ans ans_of indexP formedP tidyP Td Srt)

open Classical in
theorem start_same {C C' : List (List Int)} (h : ∀ c, c ∈ C ↔ c ∈ C') (nv : Nat) (fs : List Int) {K K' : Int → Prop} (hK : ∀ x, K x → DerP C' K' x) (hK' : ∀ x, K' x → DerP C K x) :
    (if ClaP C K then ((none : Option (Int → Prop)), 0) else asm C nv fs (DerP C K) 0) = if ClaP C' K' then (none, 0) else asm C' nv fs (DerP C' K') 0 := by
  have e1 : ClaP C K = ClaP C' K' := propext ⟨fun hx => hx.cut (fun c => (h c).1) hK, fun hx => hx.cut (fun c => (h c).2) hK'⟩
  have e2 : DerP C K = DerP C' K' := funext fun x => propext ⟨fun hx => hx.cut (fun c => (h c).1) hK, fun hx => hx.cut (fun c => (h c).2) hK'⟩
  rw [e1, e2, asm_same h]
open Classical in
theorem law4 {w : World} {nv : Int} {p : Option Addr} {n c : Nat} {css : List (List Int)} (hC : Cl w p n c css) {fp : Option Addr} {fn fc : Nat} {fs : List Int} (hF : RdL w fp fn fs) (hfn : fn ≤ 17592186044416) (hfb : ∀ j, (∃ a, fp = some a ∧ a.block = j) → 0 < fn → j < w.heap.size) (l : Int) :
    Calls Try.prog 4 #[.agg #[I nv, .slice p n c], .slice fp fn fc, I l] w fun e w' => e = .returned (.bool true) ∧ RowKit.Below w.heap.size w w' := by
  refine (V4_calls nv p n c fp fn fc l w (fun v w' => v = .bool true ∧ Keep None w w') ?_).mono fun e w' ⟨v, he, hv, hk⟩ => ⟨by rw [he, hv], hk.below0⟩
  unfold V4
  have hnc := hC.nc; have hcl := hC.cl
  have hlen := hC.len
  have hcap : cap = 8796093022208 := rfl
  have hlo : ∀ es ∈ css, es.length ≤ 17592186044416 := fun es he => by have := (hC.ok es he).1; omega
  refine alc_at fun b2 w1 hb2 hB2 k1 => ?_
  refine ldI_of (x := nv) (by rw [add_mk]; exact hB2.cell 0) ?_
  refine ldC_of (x := p) (n := n) (c := c) (by rw [add_mk]; exact hB2.cell 1) ?_
  refine cl_of ok11 (copyF11 (hC.rdc.keep0 k1) (by omega) hlo) fun e w2 ⟨p', c', hs, he, hL, k2⟩ => ⟨nv, p', n, c', he, ?_⟩
  refine cl_of ok7 (wa_new (LLrdc (hL.mono (M' := fun i => i < w2.heap.size) fun i h _ => h)) (fun i h => h) (by omega) hlo) fun e w3 ⟨q3, v3, he, hN⟩ => ⟨q3, v3, he, ?_⟩
  rcases hN with ⟨rfl, rfl, _, k3⟩ | ⟨b, M, S, rfl, rfl, hf, hA, hM, k3, n1, n2, n3, n4, n5⟩
  · exact pif_t rfl ⟨rfl, (k1.then0 k2).then0 k3⟩
  refine pif_f rfl ?_
  have s1 := k1.size; have s2 := k2.size; have s3 := k3.size
  have l2 := hB2.lt
  refine ldI_of (x := nv) (by rw [add_mk]; exact ((hB2.keep0 k2).keep0 k3).cell 0) ?_
  refine cl_of ok7 (wa_new (rdc_nil (fun _ => False) w3 none) (fun i h => h.elim) (Nat.zero_le _) (fun es h => by cases h)) fun e w4 ⟨q4, v4, he, hN⟩ => ⟨q4, v4, he, ?_⟩
  rcases hN with ⟨_, _, hn, _⟩ | ⟨b', N0, S0, rfl, rfl, _, hA0, hN0, k4, m1, m2, m3, m4, m5⟩
  · exact absurd ⟨hf.1, hf.2.1, fun c hc => by cases hc⟩ hn
  have s4 := k4.size
  refine gd_t rfl (cl_of ok10 (wa_run hA0) fun e w5 ⟨v5, N1, S1, he, hA1, e1, e2, e3, e4, e5, e6, e7⟩ => ⟨v5, he, ?_⟩)
  obtain rfl : v5 = true := e5.2 fun ⟨c, hc, _⟩ => by cases hc
  refine pif_f rfl ?_
  have hN1 : ∀ i, N1 i → w3.heap.size ≤ i := fun i hi => by
    rcases hA1.gr i hi with h | h
    · exact hN0 i h
    · omega
  have k14 : Keep None w1 w4 := ((k2.trans k3 fun _ _ h => h).trans k4 fun _ _ h => h)
  have k15 : Keep None w1 w5 := k14.trans hA1.kp fun i hi h => by have := hN0 i h; omega
  have hB5 := hB2.keep0 k15
  have hA5 : Wa M w5 b css S := (hA.keep0 k4).keep hA1.kp fun i hi hm => by have := hN0 i hi; have := hA.lt i hm; omega
  refine ldC_of (x := p) (n := n) (c := c) (by rw [add_mk]; exact hB5.cell 1) ?_
  have ew : IntKind.wrap .i64 ((n : Int) - 1) = (n : Int) - 1 := by rw [IntKind.wrap_i64]; omega
  rw [ew]
  refine lp_of (fun s W => ∃ (k : Nat) (N : Nat → Prop) (S2 : WS), s.1 = (k : Int) - 1 ∧ k ≤ n ∧ Wa N W b' (css.drop k).reverse S2 ∧ Wa M W b css S ∧ (∀ i, M i → ¬ N i) ∧ (∀ i, N i → w1.heap.size ≤ i) ∧ Keep None w1 W ∧ S2.st = [] ∧ S2.nv = nv.toNat ∧ ∀ x ∈ S2.tr, Der (css.drop k).reverse [] x)
    (fun s _ => (s.1 + 1).toNat) ⟨n, N1, S1, rfl, Nat.le_refl _, ?_, hA5, fun i hm hn => by have := hN1 i hn; have := hA.lt i hm; omega, fun i hi => by have := hN1 i hi; omega, k15, e2.trans m3, e1.trans m1, fun x hx => ?_⟩ ?_
  · rw [← hlen, List.drop_length]; exact hA1.wa
  · rw [← hlen, List.drop_length]
    have := ((e6 rfl).2 x).1 hx
    rw [m2] at this; exact this
  rintro ⟨v, ⟨⟩⟩ W ⟨k, N, S2, hv, hk, hWb, hWa, hd, hNf, kW, hst, hnv, hder⟩
  simp only [] at hv ⊢
  subst hv
  have hBW := hB2.keep0 kW
  refine pif_of (fun hq => ?_) fun hq => ?_
  · obtain ⟨k0, rfl⟩ : ∃ k0, k = k0 + 1 := ⟨k - 1, by have := of_decide_eq_true hq; omega⟩
    have ek : ((k0 + 1 : Nat) : Int) - 1 = (k0 : Nat) := by omega
    rw [ek]
    generalize hCk : (css.drop (k0 + 1)).reverse = C at hWb hder
    obtain ⟨es, hes⟩ := getE (show k0 < css.length by omega)
    have hmm := List.mem_of_getElem? hes
    have hCn : (css.drop k0).reverse = C ++ [es] := by
      obtain ⟨h1, h2⟩ := List.getElem?_eq_some_iff.1 hes
      rw [← hCk, List.drop_eq_getElem_cons h1, h2, List.reverse_cons]
    refine cl_of ok8 (wa_assume hWb l) fun e w8 ⟨x32, he, hh⟩ => ⟨x32, he, ?_⟩
    have hst3 : ∃ (N1 : Nat → Prop) (S3 : WS), After N W b' C S3 N1 w8 ∧ S3.nv = nv.toNat ∧ ((x32 = 0 ∧ S3.st = [S2.tr.length] ∧ S3.tr = S2.tr ++ [l]) ∨ (x32 ≠ 0 ∧ S3.st = [] ∧ S3.tr = S2.tr)) := by
      rcases hh with ⟨rfl, _, k8⟩ | ⟨rfl, _, _, k8⟩ | ⟨rfl, _, _, _, k8⟩ | ⟨rfl, _, _, _, N1, hA8⟩
      · exact ⟨N, S2, After.same hWb k8, hnv, Or.inr ⟨by decide, hst, rfl⟩⟩
      · exact ⟨N, S2, After.same hWb k8, hnv, Or.inr ⟨by decide, hst, rfl⟩⟩
      · exact ⟨N, S2, After.same hWb k8, hnv, Or.inr ⟨by decide, hst, rfl⟩⟩
      · exact ⟨N1, _, hA8, hnv, Or.inl ⟨rfl, by show S2.st ++ _ = _; rw [hst]; rfl, rfl⟩⟩
    obtain ⟨N3, S3, hA3, hnv3, hcase⟩ := hst3
    have fr : ∀ {N' : Nat → Prop} {W' : World} {Ca : List (List Int)} {Sa : WS}, After N W b' Ca Sa N' W' → (∀ i, N' i → w1.heap.size ≤ i) ∧ Keep None w1 W' ∧ Wa M W' b css S ∧ ∀ i, M i → ¬ N' i := fun {N'} {W'} {Ca} {Sa} hA => by
      have h1 : ∀ i, N' i → w1.heap.size ≤ i := fun i hi => by
        rcases hA.gr i hi with h | h
        · exact hNf i h
        · have := kW.size; omega
      obtain ⟨h2, h3⟩ := hA.other hWa fun i hn hm => hd i hm hn
      exact ⟨h1, kW.trans hA.kp fun i hi h => by have := hNf i h; omega, h2, fun i hm hn => h3 i hn hm⟩
    have k18 := (fr hA3).2.1
    refine ldC_of (x := p) (n := n) (c := c) (by rw [add_mk]; exact (hB2.keep0 k18).cell 1) ?_
    refine ((hC.rdc.keep0 k1).keep0 k18).ix hes fun a q2 m2 c2 ha hRd => ldC_of ha ?_
    refine cl_of ok13 (copy hRd (by rw [← hRd.len]; exact hlo es hmm)) fun e w9 ⟨v9, he, p9, c9, hv9, hO9, hf9, k9⟩ => ⟨p9, es.length, c9, by rw [he, hv9], ?_⟩
    refine cl_of ok12 (wa_add (hA3.wa.keep0 k9) (own_rdl hO9) (hlo es hmm) (by
      rw [hcap, ← hCk, List.length_reverse, List.length_drop]; omega)) fun e w10 hadd => ?_
    rcases hadd with ⟨_, hn, _⟩ | ⟨he, _, N4, S4, hA4, g1, g2, g3, g4, g5⟩
    · refine absurd (fun x hx => ?_) hn
      rw [hnv3]; exact hf.2.2 es hmm x hx
    refine ⟨0, he, pif_f rfl ?_⟩
    have hA34 : After N W b' (C ++ [es]) S4 N4 w10 := (hA3.keep0 k9).trans hA4
    refine cl_of ok10 (wa_run hA34.wa) fun e w11 ⟨v11, N5, S5, he, hA5r, f1, f2, f3, f4, f5, f6, f7⟩ => ⟨v11, he, ?_⟩
    have hA35 := hA34.trans hA5r
    have fin : ∀ {N6 : Nat → Prop} {S6 : WS} {w12 : World}, After N W b' (C ++ [es]) S6 N6 w12 → S6.nv = nv.toNat → S6.st = [] → (∀ x ∈ S6.tr, Der (C ++ [es]) [] x) →
        cl Try.prog 10 [.pointer (some ⟨b', 0, none⟩)] w12 fun e54 w14 => ∃ x53 : Bool, e54 = Ending.returned (.bool x53) ∧ ((∃ (k : Nat) (N : Nat → Prop) (S2 : WS), IntKind.wrap .i64 ((k0 : Int) - 1) = (k : Int) - 1 ∧ k ≤ n ∧ Wa N w14 b' (css.drop k).reverse S2 ∧ Wa M w14 b css S ∧ (∀ i, M i → ¬ N i) ∧ (∀ i, N i → w1.heap.size ≤ i) ∧ Keep None w1 w14 ∧ S2.st = [] ∧ S2.nv = nv.toNat ∧ ∀ x ∈ S2.tr, Der (css.drop k).reverse [] x) ∧ (IntKind.wrap .i64 ((k0 : Int) - 1) + 1).toNat < ((k0 : Int) + 1).toNat) := fun {N6} {S6} {w12} hA6 a1 a2 a3 => by
      have ew : IntKind.wrap .i64 ((k0 : Int) - 1) = (k0 : Int) - 1 := by rw [IntKind.wrap_i64]; omega
      rw [ew]
      refine cl_of ok10 (wa_run hA6.wa) fun e w14 ⟨v14, N7, S7, he, hA7, d1, d2, d3, d4, d5, d6, d7⟩ => ⟨v14, he, ⟨k0, N7, S7, rfl, by omega, ?_, (fr (hA6.trans hA7)).2.2.1, (fr (hA6.trans hA7)).2.2.2, (fr (hA6.trans hA7)).1, (fr (hA6.trans hA7)).2.1, d2.trans a2, d1.trans a1, fun x hx => ?_⟩, by omega⟩
      · rw [hCn]; exact hA7.wa
      · rw [hCn]
        cases v14 with
        | true => exact (((d6 rfl).2 x).1 hx).cut a3
        | false => rw [d7 rfl] at hx; exact a3 x hx
    rcases hcase with ⟨rfl, c1, c2⟩ | ⟨hne, c1, c2⟩
    · refine gd_t rfl ?_
      refine cl_of ok9 (wa_undo hA35.wa) fun e w12 hu => ?_
      rcases hu with ⟨_, hs0, _⟩ | ⟨he, st', s, N6, hs0, hA6⟩
      · rw [f2, g3, c1] at hs0; cases hs0
      · rw [f2, g3, c1] at hs0
        have hs1 : st' = [] ∧ s = S2.tr.length := by
          cases st' with
          | nil => simp at hs0; exact ⟨rfl, hs0.symm⟩
          | cons a st' => simp at hs0
        obtain ⟨rfl, rfl⟩ := hs1
        refine ⟨0, he, pif_f rfl ?_⟩
        refine fin (hA35.trans hA6) (f1.trans (g1.trans hnv3)) rfl fun x hx => ?_
        have hx' : x ∈ S5.tr.take S2.tr.length := hx
        have hpre : S5.tr.take S2.tr.length = S2.tr := by
          have hp : S2.tr <+: S5.tr := by
            cases v11 with
            | true => exact (show S2.tr <+: S4.tr by rw [g2, c2]; exact List.prefix_append _ _).trans (f6 rfl).1
            | false => rw [f7 rfl, g2, c2]; exact List.prefix_append _ _
          exact (List.prefix_iff_eq_take.1 hp).symm
        rw [hpre] at hx'
        exact (hder x hx').more (fun c hc => List.mem_append_left _ hc) (fun _ h => h)
    · refine gd_f (by simpa using hne) ?_
      refine pif_f (by rw [show (x32 == 0) = false by simpa using hne]; rfl) ?_
      refine fin hA35 (f1.trans (g1.trans hnv3)) (f2.trans (g3.trans c1)) fun x hx => ?_
      have old : ∀ y ∈ S4.tr, Der (C ++ [es]) [] y := fun y hy => by
        rw [g2, c2] at hy
        exact (hder y hy).more (fun c hc => List.mem_append_left _ hc) (fun _ h => h)
      cases v11 with
      | true => exact (((f6 rfl).2 x).1 hx).cut old
      | false => rw [f7 rfl] at hx; exact old x hx
  · have hk0 : k = 0 := by have := of_decide_eq_false hq; omega
    subst hk0
    rw [List.drop_zero] at hWb hder
    refine cl_of ok14 (wa_depth hWb) fun e w15 ⟨he, k15'⟩ => ⟨_, he, ?_⟩
    refine pif_f (by rw [hst]; rfl) ?_
    have kF : Keep None w W := k1.then0 kW
    have kF15 : Keep None w w15 := kF.then0 k15'
    have hMf : ∀ i, M i → w.heap.size ≤ i := fun i hi => by have := hM i hi; omega
    have hF15 := hF.keep0 kF15
    refine cl_of ok15 (assumed15 (hWa.keep0 k15') hF15 hfn fun j hj h0 => ⟨fun hm => by have := hfb j hj h0; have := hMf j hm; omega, by have := hfb j hj h0; have := kF15.size; omega⟩) fun e w16 ⟨r1, p1, n1', c1, he, M2, T1, hB1, d1, d2, L1, hL1, hn1, hf1, hnil1, htd1⟩ => ⟨r1, p1, n1', c1, he, ?_⟩
    obtain ⟨hWb2, hdis⟩ := hB1.other (hWb.keep0 k15') hd
    have hNf2 : ∀ i, N i → w.heap.size ≤ i := fun i hi => by have := hNf i hi; omega
    have kF16 : Keep None w w16 := kF15.trans hB1.kp fun i hi h => by have := hMf i h; omega
    have hF16 := hF.keep0 kF16
    refine cl_of ok15 (assumed15 hWb2 hF16 hfn fun j hj h0 => ⟨fun hm => by have := hfb j hj h0; have := hNf2 j hm; omega, by have := hfb j hj h0; have := kF16.size; omega⟩) fun e w17 ⟨r2, p2, n2', c2, he, N2, T2, hB2', t1, t2, L2, hL2, hn2, hf2, hnil2, htd2⟩ => ⟨r2, p2, n2', c2, he, ?_⟩
    have kF17 : Keep None w w17 := kF16.trans hB2'.kp fun i hi h => by have := hNf2 i h; omega
    obtain ⟨hWa3, hdis3⟩ := hB2'.other hB1.wa fun i hn hm => hdis i hm hn
    have hnvS : S.nv = S2.nv := n1.trans hnv.symm
    have hsame := start_same (C := css) (C' := css.reverse) (fun c => List.mem_reverse.symm) S.nv fs (K := (· ∈ S.tr)) (K' := (· ∈ S2.tr)) (fun x hx => by rw [n2] at hx; cases hx) (fun x hx => by
      have h1 := (hder x hx).more (C' := css) (K' := S.tr) (fun c hc => List.mem_reverse.1 hc) (fun _ h => by cases h)
      exact derP.2 h1)
    rw [show S.st.length = 0 by rw [n3]; rfl] at d1 d2 hnil1 htd1
    rw [show S2.st.length = 0 by rw [hst]; rfl, ← hnvS, ← hsame] at t1 t2 hnil2 htd2
    have hr : r1 = r2 := d2.trans t2.symm
    subst hr
    have hLL : L1 = L2 := by
      cases hA : (if ClaP css (· ∈ S.tr) then ((none : Option (Int → Prop)), 0) else asm css S.nv fs (DerP css (· ∈ S.tr)) 0).1 with
      | none => rw [hnil1 hA, hnil2 hA]
      | some K => exact (htd1 K hA).uniq (htd2 K hA) fun x _ => Iff.rfl
    subst hLL
    have er : (r1 == r1) = true := by cases r1 <;> rfl
    refine gd_t er ?_
    have hL1' := hL1.keep hB2'.kp fun j hj hn => by have := (hf1 j hj).1; have := hWb.lt j hn; have := k15'.size; omega
    refine cl_of ok16 (same hL1' hL2 (by omega)) fun e w18 ⟨he, k18⟩ => ⟨_, he, ?_⟩
    have ed : decide (L1 = L1) = true := decide_eq_true rfl
    rw [er, ed]
    refine gd_t rfl (cl_of ok14 (wa_depth (hB2'.wa.keep0 k18)) fun e w20 ⟨he, k20⟩ => ⟨_, he, ?_⟩)
    refine gd_t rfl (cl_of ok14 (wa_depth ((hWa3.keep0 k18).keep0 k20)) fun e w22 ⟨he, k22⟩ => ⟨_, he, ?_⟩)
    refine ⟨?_, ((kF17.then0 k18).then0 k20).then0 k22⟩
    rw [d1, t1]
    simp
end Go.Proofs.Ytjpblaenebodlaa.Wt
