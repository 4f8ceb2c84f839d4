/- Watch: within, Add. -/
import Derived.Test.YtjpblaenebodlaaWP
set_option linter.unusedVariables false
set_option linter.unusedSimpArgs false
set_option linter.unusedSectionVars false
set_option maxRecDepth 100000
namespace Go.Proofs.Ytjpblaenebodlaa.Wt
open Go Go.Proofs.Ytjpblaenebodlaa.Vc Go.Proofs.Ytjpblaenebodlaa.T
open Go.Proofs.Ytjpblaenebodlaa.Apart (RdL own_rdl wrap_nat getE own_len copy same take_snoc Sl sv New)
open Go.Proofs.Ytjpblaenebodlaa.Lits (fl fl_iff idx idx_inj idx_range Ans ans_of indexP formedP tidyP Td Srt)

section
variable {ex : Nat → Prop} {w : World} {b : Nat} {o : Nat → Int} {h : Hs} {S : WS}
theorem within25 (hR : Rp ex w b o h S) (hnv : S.nv ≤ 1048576) {p : Option Addr} {n c : Nat} {cs : List Int} (hRd : RdL w p n cs) (hn : n ≤ 17592186044416) :
    Calls Try.prog 25 #[Pt b, .slice p n c] w fun e w' => ∃ r : Bool, e = .returned (.bool r) ∧ (r = true ↔ ∀ x ∈ cs, Wi S.nv x) ∧ Keep None w w' := by
  refine (V25_calls (some ⟨b, 0, none⟩) p n c w (fun v w' => ∃ r : Bool, v = .bool r ∧ (r = true ↔ ∀ x ∈ cs, Wi S.nv x) ∧ Keep None w w') ?_).mono fun e w' ⟨v, he, r, hv, hk⟩ => ⟨r, by rw [he, hv], hk⟩
  unfold V25
  have hll := hRd.len
  have hvl := hR.va.len
  rw [vals_len] at hvl
  refine lp_of (fun s W => ∃ i : Nat, s.1 = (i : Int) ∧ i ≤ n ∧ Keep None w W ∧ ∀ x ∈ cs.take i, Wi S.nv x) (fun s _ => (n - s.1).toNat) ⟨0, rfl, Nat.zero_le _, Keep.refl _ _, fun x hx => by simp at hx⟩ ?_
  rintro ⟨i', ⟨⟩⟩ W ⟨i, rfl, hi, kW, hv⟩
  simp only [] at hv ⊢
  refine pif_of (fun hlt => ?_) fun hge => ?_
  · have hlt : i < n := by simpa using hlt
    rw [wrap_nat i (by omega)]
    refine (hRd.keep0 kW).ix hlt fun a x hx ha => ldI_of ha ?_
    have hxc := List.mem_of_getElem? hx
    refine cl_of ok44 (formedP x) fun e w2 ⟨he, k2⟩ => ⟨_, he, ?_⟩
    have kW2 : Keep None w w2 := kW.drew.then0 k2
    have hRW := hR.keep0 kW2
    have no : fl x = false → ¬ Wi S.nv x := fun hf hw => by rw [wi_fl hnv hw] at hf; cases hf
    cases hfx : fl x with
    | false =>
      refine gd_f rfl (gd_f rfl (gd_f rfl ⟨fun hh => (by cases hh), pif_t rfl ⟨false, rfl, ⟨fun hh => (by cases hh), fun hh => absurd (hh x hxc) (no hfx)⟩, kW2⟩⟩))
    | true =>
      have ld : ∀ {V : World}, Keep None w V → ∀ {K : Option Addr → Nat → Nat → Prop}, K h.vv.1 h.vv.2.1 h.vv.2.2 → ldC V ((⟨b, 0, none⟩ : Addr).add 0) K := fun {V} kV {K} hK => by
        rw [add_mk]
        exact ldC_of (x := h.vv.1) (n := h.vv.2.1) (c := h.vv.2.2) ((hR.keep0 kV).self.cell 0) hK
      refine gd_t rfl (nn_of (gd_t rfl (ld kW2 (gd_t rfl (cl_of ok45 (var45 hfx) fun e w3 ⟨he3, k3⟩ => ⟨_, he3, ?_⟩)))))
      refine ⟨fun _ => ld (kW2.then0 k3) rfl, ?_⟩
      have h3 := fl_iff.1 hfx
      refine pif_of (fun hh => ?_) fun hh => ?_
      · have hh : (h.vv.2.1 : Int) ≤ ((x.natAbs : Nat) : Int) := by simpa using hh
        exact ⟨false, rfl, ⟨fun hq => (by cases hq), fun hq => by have := hq x hxc; unfold Wi at this; omega⟩, kW2.then0 k3⟩
      · have hh : ((x.natAbs : Nat) : Int) < (h.vv.2.1 : Int) := by simpa using hh
        refine ⟨⟨i + 1, rfl, hlt, kW2.then0 k3, fun y hy => ?_⟩, by omega⟩
        rw [take_snoc hx] at hy
        rcases List.mem_append.1 hy with hy | hy
        · exact hv y hy
        · rw [List.mem_singleton.1 hy]
          unfold Wi
          omega
  · have hge : i = n := by simp at hge; omega
    subst hge
    rw [← hll, List.take_length] at hv
    exact ⟨true, rfl, ⟨fun _ => hv, fun _ => rfl⟩, kW⟩
end
theorem add12 {C : List (List Int)} {w : World} {b : Nat} {o : Nat → Int} {h : Hs} {S : WS} (hR : Rp noEx w b o h S) (hA : At C S) {p : Option Addr} {n c : Nat} {cs : List Int} (hRd : RdL w p n cs) (hn : n ≤ 17592186044416) (hC : C.length + 1 ≤ cap) :
    Calls Try.prog 12 #[Pt b, .slice p n c] w fun e w' => (e = .returned (I 1) ∧ (¬ ∀ x ∈ cs, Wi S.nv x) ∧ Keep None w w') ∨
      (e = .returned (I 0) ∧ (∀ x ∈ cs, Wi S.nv x) ∧ ∃ S', Nx tMine noEx w b o S' w' ∧ At (C ++ [cs]) S' ∧ S'.nv = S.nv ∧ S'.tr = S.tr ∧ S'.st = S.st ∧ S'.rest = false ∧ S'.clash = S.clash) := by
  refine (V12_calls (some ⟨b, 0, none⟩) p n c w (fun v w' => (v = I 1 ∧ (¬ ∀ x ∈ cs, Wi S.nv x) ∧ Keep None w w') ∨
      (v = I 0 ∧ (∀ x ∈ cs, Wi S.nv x) ∧ ∃ S', Nx tMine noEx w b o S' w' ∧ At (C ++ [cs]) S' ∧ S'.nv = S.nv ∧ S'.tr = S.tr ∧ S'.st = S.st ∧ S'.rest = false ∧ S'.clash = S.clash)) ?_).mono fun e w' ⟨v, he, hk⟩ => ?_
  · unfold V12
    refine cl_of ok25 (within25 hR hA.iv.wf.nvb hRd hn) fun e w1 ⟨r, he, hr, k1⟩ => ⟨r, he, ?_⟩
    refine pif_of (fun hq => Or.inl ⟨rfl, fun hh => ?_, k1⟩) fun hq => ?_
    · rw [hr.2 hh] at hq; cases hq
    · have hw := hr.1 (by simpa using hq)
      refine cl_of ok24 (hold24 (hR.keep0 k1) hA.iv (hRd.keep0 k1) hn hw hC) fun e w2 ⟨he2, S2, ⟨o2, h2, hR2, ha2, k2⟩, hI2, hF⟩ => ⟨he2, ?_⟩
      refine nn_of (hR2.setRest fun w3 hR3 k3 => Or.inr ⟨rfl, hw, _, ⟨o2, h2, hR3, fun j hj => ha2 j (by have := k1.size; omega), ?_⟩, ⟨?_, ?_, fun hh => by cases hh⟩, hF.nv, hF.tr, hF.st, rfl, hF.clash⟩)
      · refine ((k1.none (S := fun i => tMine (o i))).trans k2 fun j hj hh => hh).trans k3 fun j hj hh => ?_
        rw [show j = b from hh]
        have := hR.selfO
        exact fun e => by omega
      · have := hI2.flags false S2.clash
        rw [← hF.hd, ← hF.tr] at this
        exact this
      · show S2.st.Pairwise _
        rw [hF.st]; exact hA.st1
  · rcases hk with ⟨rfl, hk⟩ | ⟨rfl, hk⟩
    · exact Or.inl ⟨he, hk⟩
    · exact Or.inr ⟨he, hk⟩
end Go.Proofs.Ytjpblaenebodlaa.Wt
