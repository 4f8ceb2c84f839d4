/- Watch: Assume's walk; Lits, Clashes. -/
import Derived.Test.YtjpblaenebodlaaWS
set_option linter.unusedVariables false
set_option linter.unusedSimpArgs false
set_option linter.unusedSectionVars false
set_option maxRecDepth 100000
namespace Go.Proofs.Ytjpblaenebodlaa.Wt
open Go Go.Proofs.Ytjpblaenebodlaa.Vc Go.Proofs.Ytjpblaenebodlaa.T
open Go.Proofs.Ytjpblaenebodlaa.Apart (RdL own_rdl wrap_nat getE own_len copy same take_snoc Sl sv New)
open Go.Proofs.Ytjpblaenebodlaa.Lits (fl fl_iff idx idx_inj idx_range Ans ans_of indexP formedP tidyP Td Srt)

section
variable {ex : Nat → Prop} {w : World} {b : Nat} {o : Nat → Int} {h : Hs} {S : WS}
theorem lits21 (hR : Rp ex w b o h S) (hl : S.tr.length ≤ 17592186044416) : Calls Try.prog 21 #[Pt b] w fun e w' => ∃ v L, e = .returned v ∧ Td (· ∈ S.tr) L ∧ New w L v w' := by
  refine (V21_calls (some ⟨b, 0, none⟩) w (fun v w' => ∃ L, Td (· ∈ S.tr) L ∧ New w L v w') ?_).mono fun e w' ⟨v, he, L, hk⟩ => ⟨v, L, he, hk⟩
  unfold V21
  have htl := own_len hR.tr
  refine nn_of (ldC_of (x := h.tt.1) (n := h.tt.2.1) (c := h.tt.2.2) (by rw [add_mk]; exact hR.self.cell 1) ?_)
  exact cl_of ok40 (tidyP (own_rdl hR.tr) (by omega)) fun e w2 ⟨v, L, he, hT, g, gc, hv, hk⟩ => ⟨_, _, _, he.trans (congrArg Ending.returned hv), L, hT, g, gc, rfl, hk⟩
theorem clashes22 (hR : Rp ex w b o h S) : Calls Try.prog 22 #[Pt b] w fun e w' => e = .returned (.bool S.clash) ∧ Keep None w w' := by
  refine ans_of (V22_calls (some ⟨b, 0, none⟩) w (Ans w _) ?_)
  unfold V22
  exact nn_of (ldB_of (x := S.clash) (by rw [add_mk]; exact hR.self.cell 7) ⟨rfl, Keep.refl _ _⟩)
end
end Go.Proofs.Ytjpblaenebodlaa.Wt
