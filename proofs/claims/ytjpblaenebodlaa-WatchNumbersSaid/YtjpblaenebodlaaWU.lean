/- Watch: Assume's walk. -/
import Derived.Test.YtjpblaenebodlaaWT
set_option linter.unusedVariables false
set_option linter.unusedSimpArgs false
set_option linter.unusedSectionVars false
set_option maxRecDepth 100000
namespace Go.Proofs.Ytjpblaenebodlaa.Wt
open Go Go.Proofs.Ytjpblaenebodlaa.Vc Go.Proofs.Ytjpblaenebodlaa.T
open Go.Proofs.Ytjpblaenebodlaa.Apart (RdL own_rdl wrap_nat getE own_len copy same take_snoc Sl sv New)
open Go.Proofs.Ytjpblaenebodlaa.Lits (fl fl_iff idx idx_inj idx_range Ans ans_of indexP formedP tidyP Td Srt)

def Assumed (w : World) (b : Nat) (o : Nat → Int) (S : WS) (l : Int) (v : Value) (w' : World) : Prop :=
  (v = I 1 ∧ ¬ Wi S.nv l ∧ Keep None w w') ∨ (v = I 3 ∧ Wi S.nv l ∧ S.rest = false ∧ Keep None w w') ∨ (v = I 50 ∧ Wi S.nv l ∧ S.rest = true ∧ lv S.tr l ≠ 0 ∧ Keep None w w') ∨
  (v = I 0 ∧ Wi S.nv l ∧ S.rest = true ∧ lv S.tr l = 0 ∧ Nx tMine noEx w b o { S with st := S.st ++ [S.tr.length], tr := S.tr ++ [l], rest := false } w')
theorem assume8 {C : List (List Int)} {w : World} {b : Nat} {o : Nat → Int} {h : Hs} {S : WS} (hR : Rp noEx w b o h S) (hA : At C S) (hsl : S.st.length ≤ 17592186044415) (l : Int) :
    Calls Try.prog 8 #[Pt b, I l] w fun e w' => ∃ v, e = .returned v ∧ Assumed w b o S l v w' := by
  refine V8_calls (some ⟨b, 0, none⟩) l w (Assumed w b o S l) ?_
  unfold V8
  have hwf := hA.iv.wf
  refine alc_at fun b3 w1 hb3 hB3 k1 => ?_
  have hR1 := hR.keep0 k1
  have hRd : RdL w1 (some ⟨b3, 0, none⟩) 1 [l] := own_rdl (c := 1) (Or.inr ⟨b3, [I l], rfl, hB3, Nat.le_refl _, by decide, rfl, rfl⟩)
  refine cl_of ok25 (within25 hR1 hwf.nvb hRd (by decide)) fun e w2 ⟨r, he, hr, k2⟩ => ⟨r, he, ?_⟩
  have k12 := k1.then0 k2
  have hR2 := hR1.keep0 k2
  refine pif_of (fun hq => Or.inl ⟨rfl, fun hw => ?_, k12⟩) fun hq => ?_
  · rw [hr.2 (fun x hx => by rw [List.mem_singleton.1 hx]; exact hw)] at hq; cases hq
  have hw : Wi S.nv l := hr.1 (by simpa using hq) l (by simp)
  refine nn_of (ldB_of (x := S.rest) (by rw [add_mk]; exact hR2.self.cell 6) ?_)
  refine pif_of (fun hq2 => Or.inr (Or.inl ⟨rfl, hw, by simpa using hq2, k12⟩)) fun hq2 => ?_
  have hrest : S.rest = true := by simpa using hq2
  refine cl_of ok26 (of26 hR2 hwf.cons hwf.nvb hw) fun e w3 ⟨he3, k3⟩ => ⟨_, he3, ?_⟩
  have k13 := k12.then0 k3
  refine pif_of (fun hq3 => Or.inr (Or.inr (Or.inl ⟨rfl, hw, hrest, by simpa using hq3, k13⟩))) fun hq3 => ?_
  have hl0 : lv S.tr l = 0 := by simpa using hq3
  have hRd3 := (hR2.keep0 k3).keep0 ((Keep.refl None w3).drew)
  have htl := own_len hRd3.tr
  have k1d := k13.drew
  refine nn_of (ldC_of (x := h.ss.1) (n := h.ss.2.1) (c := h.ss.2.2) (by rw [add_mk]; exact hRd3.self.cell 2) (nn_of (ldC_of (x := h.tt.1) (n := h.tt.2.1) (c := h.tt.2.2) (by rw [add_mk]; exact hRd3.self.cell 1) ?_)))
  refine alc_at fun b19 w4 hb19 hB4 k4 => ?_
  have hR4 := hRd3.keep0 k4
  refine ⟨ldC_of (x := h.ss.1) (n := h.ss.2.1) (c := h.ss.2.2) (by rw [add_mk]; exact hR4.self.cell 2) rfl, ?_⟩
  rw [← htl] at hB4
  have k14 := k1d.then0 k4
  refine pushSt hR4 hsl hB4 fun w6 ⟨o6, h6, hR6, ha6, k6⟩ => ?_
  refine cl_of ok27 (put27 hR6 hwf.nvb hwf.trl hw hl0) fun e w7 ⟨he7, o7, h7, hR7, ha7, k7⟩ => ⟨he7, nn_of (hR7.setRest fun w8 hR8 k8 => Or.inr (Or.inr (Or.inr ⟨rfl, hw, hrest, hl0, o7, h7, hR8, ?_, ?_⟩)))⟩
  · exact fun j hj => (ha7 j (by have := k14.size; have := k6.size; omega)).trans (ha6 j (by have := k14.size; omega))
  · have h6' := hR.selfO
    refine (((k14.none (S := fun i => tMine (o i))).trans k6 fun j hj hh => ?_).trans k7 fun j hj hh => ?_).trans k8 fun j hj hh => ?_
    · have hh' : tSt (o j) := hh
      show o j ≠ -9
      unfold tSt at hh'; omega
    · have hh' : tPut (o6 j) := hh
      rw [ha6 j (by have := k14.size; omega)] at hh'
      show o j ≠ -9
      unfold tPut at hh'; omega
    · rw [show j = b from hh]; exact fun e => by omega
end Go.Proofs.Ytjpblaenebodlaa.Wt
