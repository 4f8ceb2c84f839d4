/- How ints, lists of ints and calls come in. -/
import Derived.Test.YtioaaeianjgaoaaVcO
import Derived.Test.YtioaaeianjgaoaaScript2
set_option linter.unusedVariables false
set_option linter.unusedSimpArgs false
set_option maxRecDepth 100000
namespace Go.Proofs.Ytioaaeianjgaoaa.Trail
open Go Go.Proofs.Ytioaaeianjgaoaa.Vc Go.Proofs.Ytioaaeianjgaoaa.T Go.ChangeShapes Go.WideShapes Go.ChangeAt Go.RowKit

theorem maxLen_eq : maxLen = 9223372036854775807 := by decide +kernel
theorem c3 : Try.prog.cellsOf 3 = 1 := by kernel_rfl
theorem c26 : Try.prog.cellsOf 26 = 1 := by kernel_rfl
theorem c35 : Try.prog.cellsOf 35 = 1 := by kernel_rfl
theorem c52 : Try.prog.cellsOf 52 = 2 := by kernel_rfl
theorem c54 : Try.prog.cellsOf 54 = 3 := by kernel_rfl
theorem c60 : Try.prog.cellsOf 60 = 5 := by kernel_rfl
theorem wf_i64 {x : Int} (h : (Lit.int .i64 x).wf = true) : i64 x := by
  simp [Lit.wf, IntKind.min, IntKind.max, IntKind.signed, IntKind.bits] at h
  exact ⟨h.1, by omega⟩
theorem fits3 {w : World} {m : Nat} {cs : List Value} (h : Fits Try.prog w (m + 1) 3 cs) : ∃ n, cs = [I n] ∧ (Lit.int .i64 n).wf = true := by
  unfold Fits at h; rw [Try.underlying3] at h; exact h
theorem fits26 {w : World} {m : Nat} {cs : List Value} (h : Fits Try.prog w (m + 2) 26 cs) : ∃ p n c xs, cs = [.slice p n c] ∧ n ≤ c ∧ SlL w p n xs := by
  unfold Fits at h; rw [Try.underlying26] at h
  rcases h with rfl | ⟨a, len, cap, rfl, hl, hm, hx⟩
  · exact ⟨none, 0, 0, [], rfl, Nat.le_refl _, rfl, by omega, fun i x hx => by simp at hx, fun x hx => by cases hx⟩
  · rw [maxLen_eq] at hm
    have hcell : ∀ i, i < len → ∃ x, w.cell? (a.add i) = some (I x) ∧ (Lit.int .i64 x).wf = true := fun i hi => by
      obtain ⟨cs', h1, h2⟩ := hx i (by omega)
      obtain ⟨x, rfl, hw⟩ := fits3 h2
      rw [c3, Nat.mul_one] at h1
      exact ⟨x, cell_of_cells?_one h1, hw⟩
    let g : Nat → Int := fun i => match w.cell? (a.add i) with | some (.int _ x) => x | _ => 0
    have hg : ∀ i, i < len → w.cell? (a.add i) = some (I (g i)) ∧ (Lit.int .i64 (g i)).wf = true := fun i hi => by
      obtain ⟨x, h1, h2⟩ := hcell i hi
      have e : g i = x := by show (match w.cell? (a.add i) with | some (.int _ x) => x | _ => 0) = x; rw [h1]
      rw [e]; exact ⟨h1, h2⟩
    refine ⟨some a, len, cap, (List.range len).map g, rfl, hl, by simp, by omega, fun i x hx => ?_, fun x hx => ?_⟩
    · rw [List.getElem?_map] at hx
      by_cases hi : i < len
      · rw [List.getElem?_range hi] at hx
        injection hx with hx
        exact ⟨a, rfl, by rw [← hx]; exact (hg i hi).1⟩
      · rw [List.getElem?_eq_none (by simpa using hi)] at hx; cases hx
    · obtain ⟨i, hi, rfl⟩ := List.mem_map.1 hx
      exact (hg i (by simpa using hi)).2
theorem fits60 {w : World} {m : Nat} {cs : List Value} (h : Fits Try.prog w (m + 3) 60 cs) :
    ∃ on kd x y p n c xs, cs = [I on, I kd, I x, I y, .slice p n c] ∧ i64 on ∧ i64 kd ∧ i64 x ∧ i64 y ∧ SlL w p n xs := by
  unfold Fits at h; rw [Try.underlying60] at h
  obtain ⟨hl, h⟩ := h
  rw [c60] at hl
  match cs, hl with
  | [a0, a1, a2, a3, a4], _ =>
    obtain ⟨n0, e0, w0⟩ := fits3 (m := m + 1) (cs := [a0]) (by simpa [c3, c26] using h 0 _ rfl)
    obtain ⟨n1, e1, w1⟩ := fits3 (m := m + 1) (cs := [a1]) (by simpa [c3, c26] using h 1 _ rfl)
    obtain ⟨n2, e2, w2⟩ := fits3 (m := m + 1) (cs := [a2]) (by simpa [c3, c26] using h 2 _ rfl)
    obtain ⟨n3, e3, w3⟩ := fits3 (m := m + 1) (cs := [a3]) (by simpa [c3, c26] using h 3 _ rfl)
    obtain ⟨p, n, c, xs, e4, _, hs⟩ := fits26 (m := m) (cs := [a4]) (by simpa [c3, c26] using h 4 _ rfl)
    simp only [List.cons.injEq, and_true] at e0 e1 e2 e3 e4
    subst e0 e1 e2 e3 e4
    exact ⟨_, _, _, _, _, _, _, _, rfl, wf_i64 w0, wf_i64 w1, wf_i64 w2, wf_i64 w3, hs⟩
theorem fits35 {w : World} {m : Nat} {cs : List Value} (h : Fits Try.prog w (m + 4) 35 cs) : ∃ p n c, cs = [.slice p n c] ∧ n ≤ 9223372036854775807 ∧ OpL w p n := by
  unfold Fits at h; rw [Try.underlying35] at h
  rcases h with rfl | ⟨a, len, cap, rfl, hl, hm, hx⟩
  · exact ⟨none, 0, 0, rfl, by omega, fun i hi => by omega⟩
  · rw [maxLen_eq] at hm
    refine ⟨some a, len, cap, rfl, by omega, fun i hi => ?_⟩
    obtain ⟨cs', h1, h2⟩ := hx i (by omega)
    obtain ⟨on, kd, x, y, p, n, c, xs, rfl, r0, r1, r2, r3, hs⟩ := fits60 h2
    rw [c60] at h1
    obtain ⟨_, _, hc⟩ := World.cells?_some h1
    exact ⟨a, on, kd, x, y, p, n, c, xs, rfl, hc 0 (by omega), hc 1 (by omega), hc 2 (by omega), hc 3 (by omega), hc 4 (by omega), r0, r1, r2, r3, hs⟩
theorem script_of {H : Type} {enc : TypeId × Value → H} {W : World} {base : Nat} {v : Value} {d : DataW H} {ps : List MemPlace}
    (hv : Value.okWide Try.prog W .any base 54 v) (h : DataW.Trod enc Try.prog W 0 (fun _ => true) true 54 v d ps) :
    ∃ v0 v1 sp n c, v = .agg #[I v0, I v1, .slice sp n c] ∧ i64 v0 ∧ i64 v1 ∧ n ≤ 9223372036854775807 ∧ OpL W sp n := by
  obtain ⟨cs, rfl⟩ := agg_of_struct Try.underlying54 hv
  have hf := fits_of h 5
  unfold Fits at hf; rw [Try.underlying54] at hf
  obtain ⟨hl, hf⟩ := hf
  rw [c54] at hl
  have hcs : (Value.agg cs).cells.toList = cs.toList := rfl
  rw [hcs] at hl hf
  match hq : cs.toList, hl with
  | [a0, a1, a2], _ =>
    rw [hq] at hf
    have h0 : Fits Try.prog W 4 52 [a0, a1] := by simpa [c52, c35] using hf 0 _ rfl
    obtain ⟨p, n, c, e2, hn, hs⟩ := fits35 (m := 0) (cs := [a2]) (by simpa [c52, c35] using hf 1 _ rfl)
    unfold Fits at h0; rw [Try.underlying52] at h0
    obtain ⟨_, h0⟩ := h0
    obtain ⟨n0, e0, w0⟩ := fits3 (m := 2) (cs := [a0]) (by simpa [c3] using h0 0 (by omega))
    obtain ⟨n1, e1, w1⟩ := fits3 (m := 2) (cs := [a1]) (by simpa [c3] using h0 1 (by omega))
    simp only [List.cons.injEq, and_true] at e0 e1 e2
    subst e0 e1 e2
    refine ⟨n0, n1, p, n, c, ?_, wf_i64 w0, wf_i64 w1, hn, hs⟩
    have : cs = #[I n0, I n1, .slice p n c] := Array.toList_inj.1 hq
    rw [this]
end Go.Proofs.Ytioaaeianjgaoaa.Trail
