/- With the reasons' room told: How entries come in. -/
import Derived.Test.YtlbpllpomdjooaaOpenE
import Derived.Test.YtlbpllpomdjooaaLearnM
import Derived.Test.YtlbpllpomdjooaaVcO
import Derived.Test.YtlbpllpomdjooaaVcK
import Derived.Test.YtlbpllpomdjooaaLearnB
set_option linter.unusedVariables false
set_option linter.unusedSimpArgs false
set_option maxRecDepth 100000
namespace Go.Proofs.Ytlbpllpomdjooaa.Learn
open Go Go.Proofs.Ytlbpllpomdjooaa.Vc Go.Proofs.Ytlbpllpomdjooaa.T Go.ChangeShapes Go.WideShapes Go.ChangeAt Go.RowKit
open Go.Proofs.Ytlbpllpomdjooaa.Apart (RdL)

theorem fits54c {w : World} {m : Nat} {cs : List Value} (h : Fits Try.prog w (m + 3) 54 cs) : ∃ lit lev p n c xs, cs = [I lit, I lev, .slice p n c] ∧ i64 lit ∧ i64 lev ∧ n ≤ c ∧ RdL w p n xs ∧ ∀ x ∈ xs, i64 x := by
  unfold Fits at h; rw [Try.underlying54] at h
  obtain ⟨hl, h⟩ := h
  rw [c54] at hl
  match cs, hl with
  | [a0, a1, a2], _ =>
    obtain ⟨n0, e0, w0⟩ := fits3 (m := m + 1) (cs := [a0]) (by simpa [c3, c25] using h 0 _ rfl)
    obtain ⟨n1, e1, w1⟩ := fits3 (m := m + 1) (cs := [a1]) (by simpa [c3, c25] using h 1 _ rfl)
    obtain ⟨p, n, c, xs, e2, hle, _, hx⟩ := fits25 (m := m) (cs := [a2]) (by simpa [c3, c25] using h 2 _ rfl)
    simp only [List.cons.injEq, and_true] at e0 e1 e2
    subst e0 e1 e2
    exact ⟨_, _, _, _, _, xs, rfl, wf_i64 w0, wf_i64 w1, hle, hx⟩
theorem fits22c {w : World} {m B : Nat} {cs : List Value} (hB : B ≤ 1048576) (h : Fits Try.prog w (m + 4) 22 cs) (hb : Bk Try.prog w B 3 22 cs) :
    ∃ p n c es, cs = [.slice p n c] ∧ n ≤ c ∧ n ≤ 1048576 ∧ RdE w p n es ∧ Rc w p es ∧ ∀ x ∈ es, OkE x := by
  unfold Fits at h; rw [Try.underlying22] at h
  unfold Bk at hb; rw [Try.underlying22] at hb
  rcases h with rfl | ⟨a, len, cap, rfl, hl, hm, hx⟩
  · exact ⟨none, 0, 0, [], rfl, by omega, by omega, ⟨rfl, fun i x hx => by simp at hx⟩, (fun i x hx => by simp at hx), fun x hx => by cases hx⟩
  · rw [maxLen_eq] at hm
    obtain ⟨hn, hbs⟩ := hb _ _ _ rfl
    have hcell : ∀ i, i < len → ∃ x : En, (∃ q rn rc, w.cell? ((a.add (i * 3)).add 0) = some (I x.lit) ∧ w.cell? ((a.add (i * 3)).add 1) = some (I x.lev) ∧ w.cell? ((a.add (i * 3)).add 2) = some (.slice q rn rc) ∧ rn ≤ rc ∧ RdL w q rn x.rs) ∧ OkE x := fun i hi => by
      obtain ⟨cs', h1, h2⟩ := hx i (by omega)
      obtain ⟨lit, lev, p, n, c, xs, rfl, r0, r1, hle, hr, r2⟩ := fits54c h2
      have hb2 := hbs a rfl i hi _ h1
      unfold Bk at hb2; rw [Try.underlying54] at hb2
      have hb3 := hb2 2 _ rfl
      have hb4 : Bk Try.prog w B 1 25 [.slice p n c] := by simpa [c3, c25] using hb3
      unfold Bk at hb4; rw [Try.underlying25] at hb4
      have hb5 := (hb4 _ _ _ rfl).1
      rw [c54] at h1
      obtain ⟨_, _, hc⟩ := World.cells?_some h1
      exact ⟨⟨lit, lev, xs⟩, ⟨p, n, c, hc 0 (by omega), hc 1 (by omega), hc 2 (by omega), hle, hr⟩, r0, r1, r2, by have := hr.len; simp only []; omega⟩
    let g : Nat → En := fun i => if hi : i < len then Classical.choose (hcell i hi) else ⟨0, 0, []⟩
    have hg : ∀ i (hi : i < len), (∃ q rn rc, w.cell? ((a.add (i * 3)).add 0) = some (I (g i).lit) ∧ w.cell? ((a.add (i * 3)).add 1) = some (I (g i).lev) ∧ w.cell? ((a.add (i * 3)).add 2) = some (.slice q rn rc) ∧ rn ≤ rc ∧ RdL w q rn (g i).rs) ∧ OkE (g i) := fun i hi => by
      have e : g i = Classical.choose (hcell i hi) := by show (if hi : i < len then Classical.choose (hcell i hi) else ⟨0, 0, []⟩) = _; rw [dif_pos hi]
      rw [e]
      exact Classical.choose_spec (hcell i hi)
    refine ⟨some a, len, cap, (List.range len).map g, rfl, hl, by omega, ⟨by simp, fun i x hx => ?_⟩, fun i x hx => ?_, fun x hx => ?_⟩
    · rw [List.getElem?_map] at hx
      by_cases hi : i < len
      · rw [List.getElem?_range hi] at hx
        injection hx with hx
        obtain ⟨⟨q, rn, rc, h0, h1, h2, h3, h4⟩, _⟩ := hg i hi
        rw [← hx]
        exact ⟨a, q, rn, rc, rfl, h0, h1, h2, h4⟩
      · rw [List.getElem?_eq_none (by simpa using hi)] at hx; cases hx
    · rw [List.getElem?_map] at hx
      by_cases hi : i < len
      · rw [List.getElem?_range hi] at hx
        injection hx with hx
        obtain ⟨⟨q, rn, rc, h0, h1, h2, h3, h4⟩, _⟩ := hg i hi
        exact ⟨a, q, rn, rc, rfl, h2, h3⟩
      · rw [List.getElem?_eq_none (by simpa using hi)] at hx; cases hx
    · obtain ⟨i, hi, rfl⟩ := List.mem_map.1 hx
      exact (hg i (by simpa using hi)).2
theorem entriesR_of {H : Type} {enc : TypeId × Value → H} {W : World} {base : Nat} {v : Value} {d : DataW H} {ps : List MemPlace}
    (hv : Value.okWide Try.prog W .any base 22 v) (h : DataW.Trod enc Try.prog W 0 (fun _ => true) true 22 v d ps) (hB : Rows.uptoBulk d ≤ 1048576) :
    ∃ p n c es, v = .slice p n c ∧ n ≤ c ∧ n ≤ 1048576 ∧ RdE W p n es ∧ Rc W p es ∧ ∀ x ∈ es, OkE x := by
  obtain ⟨p, n, c, es, e, r⟩ := fits22c (Nat.le_refl _) (fits_of h 4) (bk_of h hB 3)
  exact ⟨p, n, c, es, one_of Try.underlying22 hv e, r⟩
end Go.Proofs.Ytlbpllpomdjooaa.Learn
