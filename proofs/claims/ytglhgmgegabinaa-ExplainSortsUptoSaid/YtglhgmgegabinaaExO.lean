/- How tables and lists come in. -/
import Derived.Test.YtglhgmgegabinaaVcO
import Derived.Test.YtglhgmgegabinaaVcK
import Derived.Test.YtglhgmgegabinaaExB
set_option linter.unusedVariables false
set_option linter.unusedSimpArgs false
set_option maxRecDepth 100000
namespace Go.Proofs.Ytglhgmgegabinaa.Ex
open Go Go.Proofs.Ytglhgmgegabinaa.Vc Go.Proofs.Ytglhgmgegabinaa.T Go.ChangeShapes Go.WideShapes Go.ChangeAt Go.RowKit
open Go.Proofs.Ytglhgmgegabinaa.Sort (E JE ce fm fm_app fm_len fm_at fm_set)

theorem c3 : Try.prog.cellsOf 3 = 1 := by kernel_rfl
theorem c22 : Try.prog.cellsOf 22 = 1 := by kernel_rfl
theorem c30 : Try.prog.cellsOf 30 = 4 := by kernel_rfl
theorem c24 : Try.prog.cellsOf 24 = 3 := by kernel_rfl
theorem one_of {W : World} {base : Nat} {t e : TypeId} {v x : Value} (hu : Try.prog.underlying t = some (.slice e)) (hv : Value.okWide Try.prog W .any base t v) (h : v.cells.toList = [x]) : v = x := by
  cases v with
  | agg cs =>
    unfold Value.okWide at hv
    rw [hu] at hv
    simp [Cell.okWide, Cell.ok, hu] at hv
  | _ => simp [Value.cells] at h; exact h
theorem fits3 {w : World} {m : Nat} {cs : List Value} (h : Fits Try.prog w (m + 1) 3 cs) : ∃ n, cs = [I n] ∧ (Lit.int .i64 n).wf = true := by
  unfold Fits at h; rw [Try.underlying3] at h; exact h
theorem fits25 {w : World} {m : Nat} {cs : List Value} (h : Fits Try.prog w (m + 2) 25 cs) : ∃ p n c xs, cs = [.slice p n c] ∧ n ≤ c ∧ RdL w p n xs := by
  unfold Fits at h; rw [Try.underlying25] at h
  rcases h with rfl | ⟨a, len, cap, rfl, hl, hm, hx⟩
  · exact ⟨none, 0, 0, [], rfl, by omega, ⟨rfl, fun i x hx => by simp at hx⟩⟩
  · have hcell : ∀ i, i < len → ∃ x, w.cell? (a.add i) = some (I x) := fun i hi => by
      obtain ⟨cs', h1, h2⟩ := hx i (by omega)
      obtain ⟨x, rfl, hw⟩ := fits3 h2
      rw [c3, Nat.mul_one] at h1
      exact ⟨x, cell_of_cells?_one h1⟩
    let g : Nat → Int := fun i => match w.cell? (a.add i) with | some (.int _ x) => x | _ => 0
    have hg : ∀ i, i < len → w.cell? (a.add i) = some (I (g i)) := fun i hi => by
      obtain ⟨x, h1⟩ := hcell i hi
      have e : g i = x := by show (match w.cell? (a.add i) with | some (.int _ x) => x | _ => 0) = x; rw [h1]
      rw [e]; exact h1
    refine ⟨some a, len, cap, (List.range len).map g, rfl, hl, ⟨by simp, fun i x hx => ?_⟩⟩
    rw [List.getElem?_map] at hx
    by_cases hi : i < len
    · rw [List.getElem?_range hi] at hx
      injection hx with hx
      exact ⟨a, rfl, by rw [← hx]; exact hg i hi⟩
    · rw [List.getElem?_eq_none (by simpa using hi)] at hx; cases hx
theorem fits30 {w : World} {m : Nat} {cs : List Value} (h : Fits Try.prog w (m + 2) 30 cs) : ∃ x : E, cs = ce x := by
  unfold Fits at h; rw [Try.underlying30] at h
  obtain ⟨hl, h⟩ := h
  rw [c30] at hl
  match cs, hl with
  | [a0, a1, a2, a3], _ =>
    obtain ⟨n0, e0, w0⟩ := fits3 (m := m) (cs := [a0]) (by simpa [c3] using h 0 _ rfl)
    obtain ⟨n1, e1, w1⟩ := fits3 (m := m) (cs := [a1]) (by simpa [c3] using h 1 _ rfl)
    obtain ⟨n2, e2, w2⟩ := fits3 (m := m) (cs := [a2]) (by simpa [c3] using h 2 _ rfl)
    obtain ⟨n3, e3, w3⟩ := fits3 (m := m) (cs := [a3]) (by simpa [c3] using h 3 _ rfl)
    simp only [List.cons.injEq, and_true] at e0 e1 e2 e3
    subst e0 e1 e2 e3
    exact ⟨(n0, n1, n2, n3, ()), rfl⟩
theorem fits22 {w : World} {m B : Nat} {cs : List Value} (h : Fits Try.prog w (m + 3) 22 cs) (hb : Bk Try.prog w B 1 22 cs) :
    ∃ p n c es, cs = [.slice p n c] ∧ n ≤ c ∧ n ≤ B ∧ RdF w p n es := by
  unfold Fits at h; rw [Try.underlying22] at h
  unfold Bk at hb; rw [Try.underlying22] at hb
  rcases h with rfl | ⟨a, len, cap, rfl, hl, hm, hx⟩
  · exact ⟨none, 0, 0, [], rfl, by omega, by omega, rdf_nil⟩
  · obtain ⟨hn, _⟩ := hb _ _ _ rfl
    have hcell : ∀ i, i < len → ∃ x : E, ∀ k, k < 4 → w.cell? ((a.add (i * 4)).add k) = (ce x)[k]? := fun i hi => by
      obtain ⟨cs', h1, h2⟩ := hx i (by omega)
      obtain ⟨x, rfl⟩ := fits30 h2
      rw [c30] at h1
      obtain ⟨_, _, hc⟩ := World.cells?_some h1
      exact ⟨x, fun k hk => hc k hk⟩
    let g : Nat → E := fun i => if hi : i < len then Classical.choose (hcell i hi) else (0, 0, 0, 0, ())
    have hg : ∀ i (hi : i < len), ∀ k, k < 4 → w.cell? ((a.add (i * 4)).add k) = (ce (g i))[k]? := fun i hi => by
      have e : g i = Classical.choose (hcell i hi) := by show (if hi : i < len then Classical.choose (hcell i hi) else (0, 0, 0, 0, ())) = _; rw [dif_pos hi]
      rw [e]
      exact Classical.choose_spec (hcell i hi)
    refine ⟨some a, len, cap, (List.range len).map g, rfl, hl, by omega, ⟨by simp, fun i x hx => ?_⟩⟩
    rw [List.getElem?_map] at hx
    by_cases hi : i < len
    · rw [List.getElem?_range hi] at hx
      injection hx with hx
      rw [← hx]
      exact ⟨a, rfl, hg i hi⟩
    · rw [List.getElem?_eq_none (by simpa using hi)] at hx; cases hx
theorem fits24 {w : World} {m B : Nat} {cs : List Value} (h : Fits Try.prog w (m + 4) 24 cs) (hb : Bk Try.prog w B 2 24 cs) :
    ∃ a b p n c es, cs = [I a, I b, .slice p n c] ∧ n ≤ c ∧ n ≤ B ∧ RdF w p n es := by
  unfold Fits at h; rw [Try.underlying24] at h
  unfold Bk at hb; rw [Try.underlying24] at hb
  obtain ⟨hl, h⟩ := h
  rw [c24] at hl
  match cs, hl with
  | [a0, a1, a2], _ =>
    obtain ⟨n0, e0, w0⟩ := fits3 (m := m + 2) (cs := [a0]) (by simpa [c3, c22] using h 0 _ rfl)
    obtain ⟨n1, e1, w1⟩ := fits3 (m := m + 2) (cs := [a1]) (by simpa [c3, c22] using h 1 _ rfl)
    obtain ⟨p, n, c, es, e2, h1, h2, h3⟩ := fits22 (m := m) (cs := [a2]) (B := B) (by simpa [c3, c22] using h 2 _ rfl) (by simpa [c3, c22] using hb 2 _ rfl)
    simp only [List.cons.injEq, and_true] at e0 e1 e2
    subst e0 e1 e2
    exact ⟨n0, n1, p, n, c, es, rfl, h1, h2, h3⟩
section
variable {H : Type} {enc : TypeId × Value → H} {W : World} {base : Nat} {v : Value} {d : DataW H} {ps : List MemPlace}
theorem table_of (hv : Value.okWide Try.prog W .any base 24 v) (h : DataW.Trod enc Try.prog W 0 (fun _ => true) true 24 v d ps) (hB : Rows.uptoBulk d ≤ 1048576) :
    ∃ a b p n c es, v = .agg #[I a, I b, .slice p n c] ∧ n ≤ 1048576 ∧ RdF W p n es := by
  obtain ⟨cs, rfl⟩ := agg_of_struct Try.underlying24 hv
  obtain ⟨a, b, p, n, c, es, e, h1, h2, h3⟩ := fits24 (m := 0) (B := 1048576) (fits_of h 4) (bk_of h hB 2)
  refine ⟨a, b, p, n, c, es, ?_, h2, h3⟩
  have e' : cs = #[I a, I b, .slice p n c] := Array.toList_inj.1 (by rw [← e]; rfl)
  rw [e']
theorem ints_of (hv : Value.okWide Try.prog W .any base 25 v) (h : DataW.Trod enc Try.prog W 0 (fun _ => true) true 25 v d ps) (hB : Rows.uptoBulk d ≤ 1048576) :
    ∃ p n c xs, v = .slice p n c ∧ n ≤ 1048576 ∧ RdL W p n xs := by
  obtain ⟨p, n, c, xs, e, hc, r⟩ := fits25 (m := 0) (fits_of h 2)
  have hb := bk_of h hB 1
  rw [e] at hb
  unfold Bk at hb; rw [Try.underlying25] at hb
  exact ⟨p, n, c, xs, one_of Try.underlying25 hv e, (hb _ _ _ rfl).1, r⟩
end
end Go.Proofs.Ytglhgmgegabinaa.Ex
