/- How a list of ints comes in. -/
import Derived.Test.YtfifgopmegbifaaOpenH
set_option linter.unusedVariables false
set_option linter.unusedSimpArgs false
set_option maxRecDepth 100000
namespace Go.Proofs.Ytfifgopmegbifaa.Heat
open Go Go.Proofs.Ytfifgopmegbifaa.Vc Go.Proofs.Ytfifgopmegbifaa.T Go.ChangeShapes Go.WideShapes Go.ChangeAt Go.RowKit
open Go.Proofs.Ytfifgopmegbifaa.Apart (RdL)
theorem one_of {W : World} {base : Nat} {t e : TypeId} {v x : Value} (hu : Try.prog.underlying t = some (.slice e)) (hv : Value.okWide Try.prog W .any base t v) (h : v.cells.toList = [x]) : v = x := by
  cases v with
  | agg cs =>
    unfold Value.okWide at hv
    rw [hu] at hv
    simp [Cell.okWide, Cell.ok, hu] at hv
  | _ => simp [Value.cells] at h; exact h
theorem fits33 {w : World} {m : Nat} {cs : List Value} (h : Fits Try.prog w (m + 2) 33 cs) : ∃ p n c xs, cs = [.slice p n c] ∧ n ≤ 9223372036854775807 ∧ RdL w p n xs ∧ ∀ x ∈ xs, i64 x := by
  unfold Fits at h; rw [Try.underlying33] at h
  rcases h with rfl | ⟨a, len, cap, rfl, hl, hm, hx⟩
  · exact ⟨none, 0, 0, [], rfl, by omega, ⟨rfl, fun i x hx => by simp at hx⟩, fun x hx => by cases hx⟩
  · rw [maxLen_eq] at hm
    have hcell : ∀ i, i < len → ∃ x, w.cell? (a.add i) = some (I x) ∧ i64 x := fun i hi => by
      obtain ⟨cs', h1, h2⟩ := hx i (by omega)
      obtain ⟨x, rfl, hw⟩ := fits3 h2
      rw [c3, Nat.mul_one] at h1
      exact ⟨x, cell_of_cells?_one h1, wf_i64 hw⟩
    let g : Nat → Int := fun i => match w.cell? (a.add i) with | some (.int _ x) => x | _ => 0
    have hg : ∀ i, i < len → w.cell? (a.add i) = some (I (g i)) ∧ i64 (g i) := fun i hi => by
      obtain ⟨x, h1, h2⟩ := hcell i hi
      have e : g i = x := by show (match w.cell? (a.add i) with | some (.int _ x) => x | _ => 0) = x; rw [h1]
      rw [e]; exact ⟨h1, h2⟩
    refine ⟨some a, len, cap, (List.range len).map g, rfl, by omega, ⟨by simp, fun i x hx => ?_⟩, fun x hx => ?_⟩
    · rw [List.getElem?_map] at hx
      by_cases hi : i < len
      · rw [List.getElem?_range hi] at hx
        injection hx with hx
        exact ⟨a, rfl, by rw [← hx]; exact (hg i hi).1⟩
      · rw [List.getElem?_eq_none (by simpa using hi)] at hx; cases hx
    · obtain ⟨i, hi, rfl⟩ := List.mem_map.1 hx
      exact (hg i (by simpa using hi)).2
theorem ints_of {H : Type} {enc : TypeId × Value → H} {W : World} {base : Nat} {v : Value} {d : DataW H} {ps : List MemPlace}
    (hv : Value.okWide Try.prog W .any base 33 v) (h : DataW.Trod enc Try.prog W 0 (fun _ => true) true 33 v d ps) :
    ∃ p n c xs, v = .slice p n c ∧ n ≤ 9223372036854775807 ∧ RdL W p n xs ∧ ∀ x ∈ xs, i64 x := by
  obtain ⟨p, n, c, xs, e, r⟩ := fits33 (fits_of h 2)
  exact ⟨p, n, c, xs, one_of Try.underlying33 hv e, r⟩
end Go.Proofs.Ytfifgopmegbifaa.Heat
