/- Watch, in plain: what follows is what a Run knows. -/
import Derived.Test.YtjpblaenebodlaaWY
set_option linter.unusedVariables false
set_option linter.unusedSimpArgs false
set_option linter.unusedSectionVars false
set_option maxRecDepth 100000
namespace Go.Proofs.Ytjpblaenebodlaa.Wt
open Go Go.Proofs.Ytjpblaenebodlaa.Vc

section
variable {C C' : List (List Int)} {K K' tr : List Int}
theorem Der.cut {x : Int} (h : Der C K x) (hk : ∀ y ∈ K, Der C K' y) : Der C K' x := by
  induction h with
  | fact h => exact hk _ h
  | unit hc hl _ ih => exact Der.unit hc hl ih
theorem Der.more {x : Int} (h : Der C K x) (hC : ∀ c ∈ C, c ∈ C') (hk : ∀ y ∈ K, y ∈ K') : Der C' K' x := by
  induction h with
  | fact h => exact Der.fact (hk _ h)
  | unit hc hl _ ih => exact Der.unit (hC _ hc) hl ih
theorem Clash.cut (h : Clash C K) (hk : ∀ y ∈ K, Der C K' y) : Clash C K' := by
  obtain ⟨c, hc, hx⟩ := h
  exact ⟨c, hc, fun x h => (hx x h).cut hk⟩
theorem Clash.more (h : Clash C K) (hC : ∀ c ∈ C, c ∈ C') (hk : ∀ y ∈ K, y ∈ K') : Clash C' K' := by
  obtain ⟨c, hc, hx⟩ := h
  exact ⟨c, hC c hc, fun x h => (hx x h).more hC hk⟩
/-- what is closed has all that follows -/
theorem closed_der (h : Closed C tr) (hc : Cons tr) (h0 : ∀ c ∈ C, ∀ x ∈ c, x ≠ 0) (hk : ∀ x ∈ K, x ∈ tr) {x : Int} (hx : Der C K x) : x ∈ tr := by
  induction hx with
  | fact h => exact hk _ h
  | @unit c l hcC hl _ ih =>
    apply Classical.byContradiction
    intro hn
    rcases h c hcC with ⟨x, hx, hxn⟩ | ⟨x, hx, hxt⟩ | ⟨x, hx, y, hy, hne, h1, h2⟩
    · have hz := h0 c hcC x hx
      by_cases e1 : x = l
      · have := ih (-x) hxn (by rw [← e1]; omega)
        rw [Int.neg_neg, e1] at this
        exact hn this
      · by_cases e2 : -x = l
        · have := ih x hx e1
          rw [e2] at this; exact hn this
        · have a1 := ih x hx e1
          have a2 := ih (-x) hxn e2
          exact hc _ a1 a2
    · by_cases e1 : x = l
      · rw [e1] at hxt; exact hn hxt
      · exact hc _ hxt (ih x hx e1)
    · by_cases e1 : x = l
      · have e2 : y ≠ l := fun e => hne (e1.trans e.symm)
        exact h2 (ih y hy e2)
      · exact h1 (ih x hx e1)
theorem closed_clash (h : Closed C tr) (hc : Cons tr) (h0 : ∀ c ∈ C, ∀ x ∈ c, x ≠ 0) (hk : ∀ x ∈ K, x ∈ tr) : ¬ Clash C K := by
  rintro ⟨c, hcC, hx⟩
  have hd := fun x hx' => closed_der h hc h0 hk (hx x hx')
  rcases h c hcC with ⟨x, hx, hxn⟩ | ⟨x, hx, hxt⟩ | ⟨x, hx, y, hy, hne, h1, h2⟩
  · have := hd _ hx
    exact hc _ this (hd _ hxn)
  · exact hc _ hxt (hd _ hx)
  · exact h1 (hd _ hx)
end
/-- what a model makes true -/
theorem der_true {C : List (List Int)} {K : List Int} {T : Int → Prop} (hT : ∀ x, T x → ¬ T (-x)) (hC : ∀ c ∈ C, ∃ x ∈ c, T x) (hK : ∀ x ∈ K, T x) {x : Int} (h : Der C K x) : T x := by
  induction h with
  | fact h => exact hK _ h
  | @unit c l hc hl _ ih =>
    obtain ⟨y, hy, ht⟩ := hC c hc
    by_cases e : y = l
    · rw [← e]; exact ht
    · exact absurd (ih y hy e) (hT y ht)
theorem clash_true {C : List (List Int)} {K : List Int} {T : Int → Prop} (hT : ∀ x, T x → ¬ T (-x)) (hC : ∀ c ∈ C, ∃ x ∈ c, T x) (hK : ∀ x ∈ K, T x) : ¬ Clash C K := by
  rintro ⟨c, hc, hx⟩
  obtain ⟨y, hy, ht⟩ := hC c hc
  exact hT y ht (der_true hT hC hK (hx y hy))
/-- an answer of Run, in plain: its literals are just what follows -/
theorem run_plain {C : List (List Int)} {S S' : WS} {v : Bool} (hA' : At C S') (hr : S'.rest = v) (h0 : ∀ c ∈ C, ∀ x ∈ c, x ≠ 0)
    (ht : v = true → S.tr <+: S'.tr ∧ ∀ x ∈ S'.tr, Der C S.tr x) (hf : v = false → S'.tr = S.tr ∧ Clash C S.tr) :
    (v = true ↔ ¬ Clash C S.tr) ∧ (v = true → ∀ x, x ∈ S'.tr ↔ Der C S.tr x) := by
  cases v with
  | true =>
    obtain ⟨hp, hd⟩ := ht rfl
    obtain ⟨_, hc⟩ := hA'.rest hr
    have hcs := hA'.iv.wf.cons
    have hk : ∀ x ∈ S.tr, x ∈ S'.tr := fun x hx => hp.subset hx
    exact ⟨⟨fun _ => closed_clash hc hcs h0 hk, fun _ => rfl⟩, fun _ x => ⟨fun hx => hd x hx, fun hx => closed_der hc hcs h0 hk hx⟩⟩
  | false =>
    obtain ⟨_, hcl⟩ := hf rfl
    exact ⟨⟨fun h => (by cases h), fun h => absurd hcl h⟩, fun h => by cases h⟩
end Go.Proofs.Ytjpblaenebodlaa.Wt
