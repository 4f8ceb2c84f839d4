/- Appending to slices over blocks of their own, told more closely: in place, or into a new block. -/
import Derived.Test.YtjpblaenebodlaaVcS
set_option linter.unusedVariables false
set_option linter.unusedSimpArgs false
namespace Go.Proofs.Ytjpblaenebodlaa.Vc
open Go

theorem app_of2 {P : Program} {w : World} {t ty e : TypeId} {sz B : Nat} {z : Value} {p : Option Addr} {n c : Nat} {xs : List Value} {q : Option Addr} {m mc : Nat} {news : List Value}
    {K : Option Addr → Nat → Nat → World → Prop}
    (ht : P.underlying t = some (.slice e)) (hi0 : (P.info? e).map (fun i => (i.zero, i.size, i.bytes)) = some (some z, sz, B)) (hzs : z.cells.size = sz) (hsz : 0 < sz)
    (hO : Own w e sz p n c xs) (hN : News w sz q m mc news) (h1 : ∀ u ∈ news, u.oneCell' = true) (h63 : n + m ≤ maxLen) (hbytes : (n + m) * B ≤ 140737488355328)
    (hk : ∀ p' c' w', Own w' e sz p' (n + m) c' (xs ++ news) → ((p' = p ∧ c' = c ∧ n + m ≤ c ∧ Keep (ob p) w w') ∨ ((∀ i, ob p' i → w.heap.size ≤ i) ∧ Keep None w w')) → K p' (n + m) c' w') :
    ∃ (p' : Option Addr) (n' c' : Nat), ∃ w' : World, (Builtin.append_ #[t, t] ty #[.slice p n c, .slice q m mc]).run P w = .ok (.slice p' n' c') w' ∧ K p' n' c' w' := by
  obtain ⟨i, hi, hi'⟩ := Option.map_eq_some_iff.1 hi0
  simp only [Prod.mk.injEq] at hi'
  obtain ⟨hz, rfl, rfl⟩ := hi'
  have hsmall : n + m ≤ 9223372036854775807 := by simp only [maxLen] at h63; omega
  have kd : ∀ o, Keep None w (w.drew.alloc o) := fun o => ((Keep.refl _ w).drew).alloc o
  have hlen0 := hO.len
  -- the grown row
  have grown : ∀ (hl : news.length = m * i.size) (old : Nat), old < n + m →
      Own (w.drew.alloc (.cells (xs.toArray ++ news.toArray ++ Builtin.zeroCells z.cells (grownCap w (n + m) old e - (n + m))) e)) e i.size (some ⟨w.heap.size, 0, none⟩) (n + m) (grownCap w (n + m) old e) (xs ++ news) := by
    intro hl old ho
    have hge := grownCap_ge w (n + m) old e
    have hcm : grownCap w (n + m) old e ≤ maxLen := grownCap_le_maxLen w (n + m) old e h63
    refine Or.inr ⟨w.heap.size, (xs.toArray ++ news.toArray ++ Builtin.zeroCells z.cells (grownCap w (n + m) old e - (n + m))).toList, rfl, heap_alloc_new w.drew _, hge, hcm, ?_, ?_⟩
    · simp only [Array.length_toList, Array.size_append, List.size_toArray, size_zeroCells, hzs, hlen0, hl, ← Nat.add_mul]
      congr 1
      omega
    · have hlen : (xs ++ news).length = (n + m) * i.size := by rw [List.length_append, hlen0, hl, Nat.add_mul]
      simp only [Array.toList_append]
      rw [← hlen]
      exact List.take_left
  rcases hN with ⟨rfl, rfl, rfl, rfl⟩ | ⟨a, rfl, hl, hnews⟩
  · -- nothing
    refine ⟨p, n, c, w, ?_, hk p c w (by simpa using hO) (Or.inl ⟨rfl, rfl, by have := hO.le; omega, Keep.refl _ w⟩)⟩
    rcases hO with ⟨rfl, rfl, rfl, rfl⟩ | ⟨g, cs, rfl, hB, hnc, hcm, hcs, rfl⟩
    · simp [Builtin.append_, run_underlying ht, sizeOf, typeInfo, hi, Builtin.lenOf, Builtin.firstCells, loadCells, loadCellsFrom]
    · simp [Builtin.append_, run_underlying ht, sizeOf, typeInfo, hi, Builtin.lenOf, Builtin.firstCells, loadCells, loadCellsFrom, hnc, storeCells]

  · rcases hO with ⟨rfl, rfl, rfl, rfl⟩ | ⟨g, cs, rfl, hB, hnc, hcm, hcs, rfl⟩
    · by_cases hm : m = 0
      · subst hm
        have hn : news = [] := List.eq_nil_of_length_eq_zero (by simpa using hl)
        subst hn
        refine ⟨Option.none, 0, 0, w, ?_, hk Option.none 0 w (by simpa using Own.nil w e i.size) (Or.inl ⟨rfl, rfl, by omega, Keep.refl _ w⟩)⟩
        simp [Builtin.append_, run_underlying ht, sizeOf, typeInfo, hi, Builtin.lenOf, Builtin.firstCells, loadCells, loadCellsFrom]
      · have hr := run_append_nil (P := P) w t ty e i z ht hi hz a m mc news hl hnews (by omega) (by omega) (by have hb := hbytes; simp only [Nat.zero_add] at hb; omega)
        have hgr := grown hl 0 (by omega)
        simp only [Nat.zero_add, List.nil_append, Array.empty_append] at hgr hk ⊢
        exact ⟨_, _, _, _, hr, hk _ _ _ hgr (Or.inr ⟨fun i ⟨a, h, h'⟩ => by cases h; exact Nat.le_of_eq h', kd _⟩)⟩
    · have hxs : (cs.take (n * i.size)).length = n * i.size := hlen0
      by_cases hroom : n + m ≤ c
      · have hle : (n + m) * i.size ≤ c * i.size := Nat.mul_le_mul_right _ hroom
        rw [Nat.add_mul] at hle
        have hfit : n * i.size + news.length ≤ cs.toArray.size := by rw [hl, List.size_toArray, hcs]; exact hle
        have hr := run_append_room (P := P) w t ty e i ht hi g n c cs.toArray hB a m mc news hl hnews h1 hroom hfit
        refine ⟨_, _, _, _, hr, hk _ _ _ (Or.inr ⟨g, cs.take (n * i.size) ++ news ++ cs.drop (n * i.size + news.length), rfl, setRow_heap w g cs.toArray _ e _ hB, hroom, hcm, ?_, ?_⟩) (Or.inl ⟨rfl, rfl, hroom, ⟨rfl, rfl, rfl, by simp, fun k _ hk' => setRow_other w g k _ (fun e => hk' (e ▸ ⟨_, rfl, rfl⟩))⟩⟩)⟩
        · simp only [List.length_append, hxs, List.length_drop, hl]
          omega
        · have hlen : (cs.take (n * i.size) ++ news).length = (n + m) * i.size := by rw [List.length_append, hxs, hl, Nat.add_mul]
          rw [← hlen]
          exact List.take_left
      · have holds : ∀ j u, (cs.take (n * i.size))[j]? = some u → w.cell? ((⟨g, 0, none⟩ : Addr).add j) = some u := fun j u hu => by
          rw [add_mk, Nat.zero_add, hB.cell]
          rw [List.getElem?_take] at hu
          split at hu
          · exact hu
          · cases hu
        have hr := run_append_grow (P := P) w t ty e i z ht hi hz ⟨g, 0, none⟩ n c (cs.take (n * i.size)) hxs holds a m mc news hl hnews (by omega) (by omega) (growslice_fits (by omega) hbytes)
        have hgr := grown hl c (by omega)
        exact ⟨_, _, _, _, hr, hk _ _ _ hgr (Or.inr ⟨fun i ⟨a, h, h'⟩ => by cases h; exact Nat.le_of_eq h', kd _⟩)⟩
end Go.Proofs.Ytjpblaenebodlaa.Vc
