/- How entries come in. -/
import Derived.Test.YtlbpllpomdjooaaVcO
import Derived.Test.YtlbpllpomdjooaaVcK
import Derived.Test.YtlbpllpomdjooaaLearnB
set_option linter.unusedVariables false
set_option linter.unusedSimpArgs false
set_option maxRecDepth 100000
namespace Go.Proofs.Ytlbpllpomdjooaa.Learn
open Go Go.Proofs.Ytlbpllpomdjooaa.Vc Go.Proofs.Ytlbpllpomdjooaa.T Go.ChangeShapes Go.WideShapes Go.ChangeAt Go.RowKit
open Go.Proofs.Ytlbpllpomdjooaa.Apart (RdL)

theorem maxLen_eq : maxLen = 9223372036854775807 := by decide +kernel
theorem c3 : Try.prog.cellsOf 3 = 1 := by kernel_rfl
theorem c25 : Try.prog.cellsOf 25 = 1 := by kernel_rfl
theorem c54 : Try.prog.cellsOf 54 = 3 := by kernel_rfl
theorem wf_i64 {x : Int} (h : (Lit.int .i64 x).wf = true) : i64 x := by
  simp [Lit.wf, IntKind.min, IntKind.max, IntKind.signed, IntKind.bits] at h
  exact ⟨h.1, by omega⟩
theorem one_of {W : World} {base : Nat} {t e : TypeId} {v x : Value} (hu : Try.prog.underlying t = some (.slice e)) (hv : Value.okWide Try.prog W .any base t v) (h : v.cells.toList = [x]) : v = x := by
  cases v with
  | agg cs =>
    unfold Value.okWide at hv
    rw [hu] at hv
    simp [Cell.okWide, Cell.ok, hu] at hv
  | _ => simp [Value.cells] at h; exact h
theorem fits3 {w : World} {m : Nat} {cs : List Value} (h : Fits Try.prog w (m + 1) 3 cs) : ∃ n, cs = [I n] ∧ (Lit.int .i64 n).wf = true := by
  unfold Fits at h; rw [Try.underlying3] at h; exact h
theorem fits25 {w : World} {m : Nat} {cs : List Value} (h : Fits Try.prog w (m + 2) 25 cs) : ∃ p n c xs, cs = [.slice p n c] ∧ n ≤ c ∧ n ≤ 9223372036854775807 ∧ RdL w p n xs ∧ ∀ x ∈ xs, i64 x := by
  unfold Fits at h; rw [Try.underlying25] at h
  rcases h with rfl | ⟨a, len, cap, rfl, hl, hm, hx⟩
  · exact ⟨none, 0, 0, [], rfl, by omega, by omega, ⟨rfl, fun i x hx => by simp at hx⟩, fun x hx => by cases hx⟩
  · rw [maxLen_eq] at hm
    have hcell : ∀ i, i < len → ∃ x, w.cell? (a.add i) = some (I x) ∧ i64 x := fun i hi => by
      obtain ⟨cs', h1, h2⟩ := hx i (by omega)
      obtain ⟨x, rfl, hw⟩ := fits3 h2
      rw [c3, Nat.mul_one] at h1
      exact ⟨x, cell_of_cells?_one h1, wf_i64 hw⟩
    let g : Nat → Int := fun i => match w.cell? (a.add i) with | some (.int _ x) => x | _ => 0
    have hg : ∀ i, i < len → w.cell? (a.add i) = some (I (g i)) ∧ i64 (g i) := fun i hi => by
      obtain ⟨x, h1, h2⟩ := hcell i hi
      have e : g i = x := by show (match w.cell? (a.add i) with | some (.int _ x) => x | _ => 0) = x; rw [h1]
      rw [e]; exact ⟨h1, h2⟩
    refine ⟨some a, len, cap, (List.range len).map g, rfl, hl, by omega, ⟨by simp, fun i x hx => ?_⟩, fun x hx => ?_⟩
    · rw [List.getElem?_map] at hx
      by_cases hi : i < len
      · rw [List.getElem?_range hi] at hx
        injection hx with hx
        exact ⟨a, rfl, by rw [← hx]; exact (hg i hi).1⟩
      · rw [List.getElem?_eq_none (by simpa using hi)] at hx; cases hx
    · obtain ⟨i, hi, rfl⟩ := List.mem_map.1 hx
      exact (hg i (by simpa using hi)).2
theorem fits54 {w : World} {m : Nat} {cs : List Value} (h : Fits Try.prog w (m + 3) 54 cs) : ∃ lit lev p n c xs, cs = [I lit, I lev, .slice p n c] ∧ i64 lit ∧ i64 lev ∧ RdL w p n xs ∧ ∀ x ∈ xs, i64 x := by
  unfold Fits at h; rw [Try.underlying54] at h
  obtain ⟨hl, h⟩ := h
  rw [c54] at hl
  match cs, hl with
  | [a0, a1, a2], _ =>
    obtain ⟨n0, e0, w0⟩ := fits3 (m := m + 1) (cs := [a0]) (by simpa [c3, c25] using h 0 _ rfl)
    obtain ⟨n1, e1, w1⟩ := fits3 (m := m + 1) (cs := [a1]) (by simpa [c3, c25] using h 1 _ rfl)
    obtain ⟨p, n, c, xs, e2, _, _, hx⟩ := fits25 (m := m) (cs := [a2]) (by simpa [c3, c25] using h 2 _ rfl)
    simp only [List.cons.injEq, and_true] at e0 e1 e2
    subst e0 e1 e2
    exact ⟨_, _, _, _, _, xs, rfl, wf_i64 w0, wf_i64 w1, hx⟩
/-- what is known of an entry's numbers -/
def OkE (x : En) : Prop := i64 x.lit ∧ i64 x.lev ∧ (∀ l ∈ x.rs, i64 l) ∧ x.rs.length ≤ 1048576
theorem fits22 {w : World} {m B : Nat} {cs : List Value} (hB : B ≤ 1048576) (h : Fits Try.prog w (m + 4) 22 cs) (hb : Bk Try.prog w B 3 22 cs) :
    ∃ p n c es, cs = [.slice p n c] ∧ n ≤ c ∧ n ≤ 1048576 ∧ RdE w p n es ∧ ∀ x ∈ es, OkE x := by
  unfold Fits at h; rw [Try.underlying22] at h
  unfold Bk at hb; rw [Try.underlying22] at hb
  rcases h with rfl | ⟨a, len, cap, rfl, hl, hm, hx⟩
  · exact ⟨none, 0, 0, [], rfl, by omega, by omega, ⟨rfl, fun i x hx => by simp at hx⟩, fun x hx => by cases hx⟩
  · rw [maxLen_eq] at hm
    obtain ⟨hn, hbs⟩ := hb _ _ _ rfl
    have hcell : ∀ i, i < len → ∃ x : En, (∃ q rn rc, w.cell? ((a.add (i * 3)).add 0) = some (I x.lit) ∧ w.cell? ((a.add (i * 3)).add 1) = some (I x.lev) ∧ w.cell? ((a.add (i * 3)).add 2) = some (.slice q rn rc) ∧ RdL w q rn x.rs) ∧ OkE x := fun i hi => by
      obtain ⟨cs', h1, h2⟩ := hx i (by omega)
      obtain ⟨lit, lev, p, n, c, xs, rfl, r0, r1, hr, r2⟩ := fits54 h2
      have hb2 := hbs a rfl i hi _ h1
      unfold Bk at hb2; rw [Try.underlying54] at hb2
      have hb3 := hb2 2 _ rfl
      have hb4 : Bk Try.prog w B 1 25 [.slice p n c] := by simpa [c3, c25] using hb3
      unfold Bk at hb4; rw [Try.underlying25] at hb4
      have hb5 := (hb4 _ _ _ rfl).1
      rw [c54] at h1
      obtain ⟨_, _, hc⟩ := World.cells?_some h1
      exact ⟨⟨lit, lev, xs⟩, ⟨p, n, c, hc 0 (by omega), hc 1 (by omega), hc 2 (by omega), hr⟩, r0, r1, r2, by have := hr.len; simp only []; omega⟩
    let g : Nat → En := fun i => if hi : i < len then Classical.choose (hcell i hi) else ⟨0, 0, []⟩
    have hg : ∀ i (hi : i < len), (∃ q rn rc, w.cell? ((a.add (i * 3)).add 0) = some (I (g i).lit) ∧ w.cell? ((a.add (i * 3)).add 1) = some (I (g i).lev) ∧ w.cell? ((a.add (i * 3)).add 2) = some (.slice q rn rc) ∧ RdL w q rn (g i).rs) ∧ OkE (g i) := fun i hi => by
      have e : g i = Classical.choose (hcell i hi) := by show (if hi : i < len then Classical.choose (hcell i hi) else ⟨0, 0, []⟩) = _; rw [dif_pos hi]
      rw [e]
      exact Classical.choose_spec (hcell i hi)
    refine ⟨some a, len, cap, (List.range len).map g, rfl, hl, by omega, ⟨by simp, fun i x hx => ?_⟩, fun x hx => ?_⟩
    · rw [List.getElem?_map] at hx
      by_cases hi : i < len
      · rw [List.getElem?_range hi] at hx
        injection hx with hx
        obtain ⟨⟨q, rn, rc, h⟩, _⟩ := hg i hi
        rw [← hx]
        exact ⟨a, q, rn, rc, rfl, h⟩
      · rw [List.getElem?_eq_none (by simpa using hi)] at hx; cases hx
    · obtain ⟨i, hi, rfl⟩ := List.mem_map.1 hx
      exact (hg i (by simpa using hi)).2
theorem entries_of {H : Type} {enc : TypeId × Value → H} {W : World} {base : Nat} {v : Value} {d : DataW H} {ps : List MemPlace}
    (hv : Value.okWide Try.prog W .any base 22 v) (h : DataW.Trod enc Try.prog W 0 (fun _ => true) true 22 v d ps) (hB : Rows.uptoBulk d ≤ 1048576) :
    ∃ p n c es, v = .slice p n c ∧ n ≤ c ∧ n ≤ 1048576 ∧ RdE W p n es ∧ ∀ x ∈ es, OkE x := by
  obtain ⟨p, n, c, es, e, r⟩ := fits22 (Nat.le_refl _) (fits_of h 4) (bk_of h hB 3)
  exact ⟨p, n, c, es, one_of Try.underlying22 hv e, r⟩
theorem ints_of {H : Type} {enc : TypeId × Value → H} {W : World} {base : Nat} {v : Value} {d : DataW H} {ps : List MemPlace}
    (hv : Value.okWide Try.prog W .any base 25 v) (h : DataW.Trod enc Try.prog W 0 (fun _ => true) true 25 v d ps) (hB : Rows.uptoBulk d ≤ 1048576) :
    ∃ p n c xs, v = .slice p n c ∧ n ≤ c ∧ n ≤ 1048576 ∧ RdL W p n xs ∧ ∀ x ∈ xs, i64 x := by
  obtain ⟨p, n, c, xs, e, hc, _, r⟩ := fits25 (fits_of h 2)
  have hb := bk_of h hB 1
  rw [e] at hb
  unfold Bk at hb; rw [Try.underlying25] at hb
  exact ⟨p, n, c, xs, one_of Try.underlying25 hv e, hc, (hb _ _ _ rfl).1, r⟩
end Go.Proofs.Ytlbpllpomdjooaa.Learn
