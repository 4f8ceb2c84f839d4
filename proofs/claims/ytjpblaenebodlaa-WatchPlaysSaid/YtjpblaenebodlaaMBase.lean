/- Slices over blocks of their own: indexing, storing, append, make. -/
import Derived.Test.YtjpblaenebodlaaMVcL
import Derived.Laws.AppendOwn
import Derived.Deep.DeepAppendWide
import Derived.Test.YtjpblaenebodlaaProg
set_option linter.unusedVariables false
set_option linter.unusedSimpArgs false
namespace Go.Proofs.Ytjpblaenebodlaa.Vc
open Go

/-- a slice that begins at a block's beginning: its cells are xs (sz of them an element), c elements have room -/
def Own (w : World) (e : TypeId) (sz : Nat) (p : Option Addr) (n c : Nat) (xs : List Value) : Prop :=
  (p = none ∧ n = 0 ∧ c = 0 ∧ xs = []) ∨ ∃ b cs, p = some ⟨b, 0, none⟩ ∧ Blk w b cs e ∧ n ≤ c ∧ c ≤ maxLen ∧ cs.length = c * sz ∧ cs.take (n * sz) = xs
/-- its block -/
def ob (p : Option Addr) (i : Nat) : Prop := ∃ a, p = some a ∧ a.block = i

section
variable {w w' : World} {e : TypeId} {sz : Nat} {p : Option Addr} {n c : Nat} {xs : List Value}
theorem Own.nil (w : World) (e : TypeId) (sz : Nat) : Own w e sz none 0 0 [] := Or.inl ⟨rfl, rfl, rfl, rfl⟩
theorem Own.len (h : Own w e sz p n c xs) : xs.length = n * sz := by
  rcases h with ⟨_, rfl, _, rfl⟩ | ⟨b, cs, _, _, h1, _, h2, rfl⟩
  · simp
  · rw [List.length_take, h2]; exact Nat.min_eq_left (Nat.mul_le_mul_right _ h1)
theorem Own.le (h : Own w e sz p n c xs) : n ≤ c ∧ c ≤ maxLen := by
  rcases h with ⟨_, rfl, rfl, rfl⟩ | ⟨b, cs, _, _, h1, h2, _, _⟩
  · exact ⟨Nat.le_refl _, Nat.zero_le _⟩
  · exact ⟨h1, h2⟩
theorem Own.keep {S : Nat → Prop} (h : Own w e sz p n c xs) (hk : Keep S w w') (hs : ∀ i, ob p i → ¬ S i) : Own w' e sz p n c xs := by
  rcases h with h | ⟨b, cs, hp, hB, h⟩
  · exact Or.inl h
  · exact Or.inr ⟨b, cs, hp, hB.keep hk (hs b ⟨_, hp, rfl⟩), h⟩
theorem Own.drew (h : Own w e sz p n c xs) : Own w.drew e sz p n c xs := h
theorem Own.keep0 (h : Own w e sz p n c xs) (hk : Keep None w w') : Own w' e sz p n c xs := h.keep hk fun _ _ h => h
theorem Own.lt (h : Own w e sz p n c xs) : ∀ i, ob p i → i < w.heap.size := by
  rcases h with ⟨rfl, _⟩ | ⟨b, cs, rfl, hB, h⟩
  · rintro i ⟨a, h, _⟩; cases h
  · rintro i ⟨a, h, rfl⟩; cases h; exact hB.lt
theorem Own.cell {b : Nat} (h : Own w e sz (some ⟨b, 0, none⟩) n c xs) (j : Nat) (hj : j < n * sz) : w.cell? ⟨b, j, none⟩ = xs[j]? := by
  rcases h with ⟨h, _⟩ | ⟨b', cs, hp, hB, h1, h2, h3, rfl⟩
  · cases h
  · cases hp
    rw [hB.cell, List.getElem?_take, if_pos hj]
theorem Own.ix {i : Int} {K : Addr → Prop} (h : Own w e sz p n c xs) (h0 : 0 ≤ i) (h1 : i < n)
    (hk : ∀ b, p = some ⟨b, 0, none⟩ → K ⟨b, i.toNat * sz, none⟩) : ixA p n i sz K := by
  rcases h with ⟨_, rfl, _, _⟩ | ⟨b, cs, rfl, _⟩
  · exfalso; omega
  · refine ⟨h0, h1, ?_⟩
    show K _
    rw [add_mk, Nat.zero_add]
    exact hk b rfl
theorem Own.st {b j : Nat} {v : Value} {K : World → Prop} (h : Own w e sz (some ⟨b, 0, none⟩) n c xs) (hj : j < n * sz) (hv : v.oneCell' = true)
    (hk : ∀ w', Own w' e sz (some ⟨b, 0, none⟩) n c (xs.set j v) → Keep (One b) w w' → w'.heap.size = w.heap.size → K w') : st w ⟨b, j, none⟩ v K := by
  rcases h with ⟨h, _⟩ | ⟨b', cs, hp, hB, h1, h2, h3, rfl⟩
  · cases h
  · cases hp
    have hle : n * sz ≤ c * sz := Nat.mul_le_mul_right _ h1
    refine st_of hB (by omega) hv fun w' hB' k1 k2 => hk w' (Or.inr ⟨b, _, rfl, hB', h1, h2, by rw [List.length_set]; exact h3, ?_⟩) k1 k2
    rw [List.take_set]
/-- cut from the beginning -/
theorem Own.cut {m : Nat} (h : Own w e sz p n c xs) (hm : m ≤ n) : Own w e sz p m c (xs.take (m * sz)) := by
  rcases h with ⟨rfl, rfl, rfl, rfl⟩ | ⟨b, cs, hp, hB, h1, h2, h3, rfl⟩
  · obtain rfl : m = 0 := by omega
    exact Or.inl ⟨rfl, rfl, rfl, by simp⟩
  · refine Or.inr ⟨b, cs, hp, hB, by omega, h2, h3, ?_⟩
    rw [List.take_take, Nat.min_eq_left (Nat.mul_le_mul_right _ hm)]

theorem Own.row {base : Nat} (h : Own w e sz p n c xs) (hb : ∀ i, ob p i → base ≤ i) : w.ownsRow base e sz (.slice p n c) n xs := by
  refine ⟨h.len, ?_⟩
  rcases h with ⟨rfl, rfl, rfl, rfl⟩ | ⟨b, cs, rfl, hB, h1, h2, h3, rfl⟩
  · exact Or.inl ⟨rfl, rfl⟩
  · exact Or.inr ⟨b, c, cs.toArray, rfl, hb b ⟨_, rfl, rfl⟩, hB, h1, h2, by simpa using h3, by simp⟩
end

/-- what is appended: nothing, or a row of cells -/
def News (w : World) (sz : Nat) (q : Option Addr) (m mc : Nat) (news : List Value) : Prop :=
  (q = none ∧ m = 0 ∧ mc = 0 ∧ news = []) ∨ ∃ a, q = some a ∧ news.length = m * sz ∧ ∀ j u, news[j]? = some u → w.cell? (a.add j) = some u
theorem Own.news {w : World} {e : TypeId} {sz : Nat} {p : Option Addr} {n c : Nat} {xs : List Value} (h : Own w e sz p n c xs) : News w sz p n c xs := by
  have hl := h.len
  rcases h with h | ⟨b, cs, rfl, hB, h1, h2, h3, rfl⟩
  · exact Or.inl ⟨h.1, h.2.1, h.2.2.1, h.2.2.2⟩
  · refine Or.inr ⟨_, rfl, hl, fun j u hu => ?_⟩
    rw [add_mk, Nat.zero_add, hB.cell]
    rw [List.getElem?_take] at hu
    split at hu
    · exact hu
    · cases hu
theorem Blk.news1 {w : World} {b : Nat} {v : Value} {t : TypeId} (h : Blk w b [v] t) : News w 1 (some ⟨b, 0, none⟩) 1 1 [v] :=
  Or.inr ⟨_, rfl, rfl, fun j u hu => by
    rw [add_mk, Nat.zero_add, h.cell]; exact hu⟩

theorem app_of {P : Program} {w : World} {t ty e : TypeId} {sz B : Nat} {z : Value} {p : Option Addr} {n c : Nat} {xs : List Value} {q : Option Addr} {m mc : Nat} {news : List Value}
    {K : Option Addr → Nat → Nat → World → Prop}
    (ht : P.underlying t = some (.slice e)) (hi0 : (P.info? e).map (fun i => (i.zero, i.size, i.bytes)) = some (some z, sz, B)) (hzs : z.cells.size = sz) (hsz : 0 < sz)
    (hO : Own w e sz p n c xs) (hN : News w sz q m mc news) (h1 : ∀ u ∈ news, u.oneCell' = true) (h63 : n + m ≤ maxLen) (hbytes : (n + m) * B ≤ 140737488355328)
    (hk : ∀ p' c' w', Own w' e sz p' (n + m) c' (xs ++ news) → Keep (ob p) w w' → (∀ i, ob p' i → ob p i ∨ w.heap.size ≤ i) → K p' (n + m) c' w') :
    ∃ (p' : Option Addr) (n' c' : Nat), ∃ w' : World, (Builtin.append_ #[t, t] ty #[.slice p n c, .slice q m mc]).run P w = .ok (.slice p' n' c') w' ∧ K p' n' c' w' := by
  obtain ⟨i, hi, hi'⟩ := Option.map_eq_some_iff.1 hi0
  simp only [Prod.mk.injEq] at hi'
  obtain ⟨hz, rfl, rfl⟩ := hi'
  have hsmall : n + m ≤ 9223372036854775807 := by simp only [maxLen] at h63; omega
  have kd : ∀ o, Keep (ob p) w (w.drew.alloc o) := fun o => ((Keep.refl _ w).drew).alloc o
  have hlen0 := hO.len
  -- the grown row
  have grown : ∀ (hl : news.length = m * i.size) (old : Nat), old < n + m →
      Own (w.drew.alloc (.cells (xs.toArray ++ news.toArray ++ Builtin.zeroCells z.cells (grownCap w (n + m) old e - (n + m))) e)) e i.size (some ⟨w.heap.size, 0, none⟩) (n + m) (grownCap w (n + m) old e) (xs ++ news) := by
    intro hl old ho
    have hge := grownCap_ge w (n + m) old e
    have hcm : grownCap w (n + m) old e ≤ maxLen := grownCap_le_maxLen w (n + m) old e h63
    refine Or.inr ⟨w.heap.size, (xs.toArray ++ news.toArray ++ Builtin.zeroCells z.cells (grownCap w (n + m) old e - (n + m))).toList, rfl, heap_alloc_new w.drew _, hge, hcm, ?_, ?_⟩
    · simp only [Array.length_toList, Array.size_append, List.size_toArray, size_zeroCells, hzs, hlen0, hl, ← Nat.add_mul]
      congr 1
      omega
    · have hlen : (xs ++ news).length = (n + m) * i.size := by rw [List.length_append, hlen0, hl, Nat.add_mul]
      simp only [Array.toList_append]
      rw [← hlen]
      exact List.take_left
  rcases hN with ⟨rfl, rfl, rfl, rfl⟩ | ⟨a, rfl, hl, hnews⟩
  · -- nothing
    refine ⟨p, n, c, w, ?_, hk p c w (by simpa using hO) (Keep.refl _ w) fun i h => Or.inl h⟩
    rcases hO with ⟨rfl, rfl, rfl, rfl⟩ | ⟨g, cs, rfl, hB, hnc, hcm, hcs, rfl⟩
    · simp [Builtin.append_, run_underlying ht, sizeOf, typeInfo, hi, Builtin.lenOf, Builtin.firstCells, loadCells, loadCellsFrom]
    · simp [Builtin.append_, run_underlying ht, sizeOf, typeInfo, hi, Builtin.lenOf, Builtin.firstCells, loadCells, loadCellsFrom, hnc, storeCells]

  · rcases hO with ⟨rfl, rfl, rfl, rfl⟩ | ⟨g, cs, rfl, hB, hnc, hcm, hcs, rfl⟩
    · by_cases hm : m = 0
      · subst hm
        have hn : news = [] := List.eq_nil_of_length_eq_zero (by simpa using hl)
        subst hn
        refine ⟨Option.none, 0, 0, w, ?_, hk Option.none 0 w (by simpa using Own.nil w e i.size) (Keep.refl _ w) fun i h => Or.inl h⟩
        simp [Builtin.append_, run_underlying ht, sizeOf, typeInfo, hi, Builtin.lenOf, Builtin.firstCells, loadCells, loadCellsFrom]
      · have hr := run_append_nil (P := P) w t ty e i z ht hi hz a m mc news hl hnews (by omega) (by omega) (by have hb := hbytes; simp only [Nat.zero_add] at hb; omega)
        have hgr := grown hl 0 (by omega)
        simp only [Nat.zero_add, List.nil_append, Array.empty_append] at hgr hk ⊢
        exact ⟨_, _, _, _, hr, hk _ _ _ hgr (kd _) fun i ⟨a, h, h'⟩ => Or.inr (by cases h; exact Nat.le_of_eq h')⟩
    · have hxs : (cs.take (n * i.size)).length = n * i.size := hlen0
      by_cases hroom : n + m ≤ c
      · have hle : (n + m) * i.size ≤ c * i.size := Nat.mul_le_mul_right _ hroom
        rw [Nat.add_mul] at hle
        have hfit : n * i.size + news.length ≤ cs.toArray.size := by rw [hl, List.size_toArray, hcs]; exact hle
        have hr := run_append_room (P := P) w t ty e i ht hi g n c cs.toArray hB a m mc news hl hnews h1 hroom hfit
        refine ⟨_, _, _, _, hr, hk _ _ _ (Or.inr ⟨g, cs.take (n * i.size) ++ news ++ cs.drop (n * i.size + news.length), rfl, setRow_heap w g cs.toArray _ e _ hB, hroom, hcm, ?_, ?_⟩) ⟨rfl, rfl, rfl, by simp, fun k _ hk' => setRow_other w g k _ (fun e => hk' (e ▸ ⟨_, rfl, rfl⟩))⟩ fun i h => Or.inl h⟩
        · simp only [List.length_append, hxs, List.length_drop, hl]
          omega
        · have hlen : (cs.take (n * i.size) ++ news).length = (n + m) * i.size := by rw [List.length_append, hxs, hl, Nat.add_mul]
          rw [← hlen]
          exact List.take_left
      · have holds : ∀ j u, (cs.take (n * i.size))[j]? = some u → w.cell? ((⟨g, 0, none⟩ : Addr).add j) = some u := fun j u hu => by
          rw [add_mk, Nat.zero_add, hB.cell]
          rw [List.getElem?_take] at hu
          split at hu
          · exact hu
          · cases hu
        have hr := run_append_grow (P := P) w t ty e i z ht hi hz ⟨g, 0, none⟩ n c (cs.take (n * i.size)) hxs holds a m mc news hl hnews (by omega) (by omega) (growslice_fits (by omega) hbytes)
        have hgr := grown hl c (by omega)
        exact ⟨_, _, _, _, hr, hk _ _ _ hgr (kd _) fun i ⟨a, h, h'⟩ => Or.inr (by cases h; exact Nat.le_of_eq h')⟩
end Go.Proofs.Ytjpblaenebodlaa.Vc

/- Appending to slices over blocks of their own, told more closely: in place, or into a new block. -/
set_option linter.unusedVariables false
set_option linter.unusedSimpArgs false
namespace Go.Proofs.Ytjpblaenebodlaa.Vc
open Go

theorem app_of2 {P : Program} {w : World} {t ty e : TypeId} {sz B : Nat} {z : Value} {p : Option Addr} {n c : Nat} {xs : List Value} {q : Option Addr} {m mc : Nat} {news : List Value}
    {K : Option Addr → Nat → Nat → World → Prop}
    (ht : P.underlying t = some (.slice e)) (hi0 : (P.info? e).map (fun i => (i.zero, i.size, i.bytes)) = some (some z, sz, B)) (hzs : z.cells.size = sz) (hsz : 0 < sz)
    (hO : Own w e sz p n c xs) (hN : News w sz q m mc news) (h1 : ∀ u ∈ news, u.oneCell' = true) (h63 : n + m ≤ maxLen) (hbytes : (n + m) * B ≤ 140737488355328)
    (hk : ∀ p' c' w', Own w' e sz p' (n + m) c' (xs ++ news) → ((p' = p ∧ c' = c ∧ n + m ≤ c ∧ Keep (ob p) w w') ∨ ((∀ i, ob p' i → w.heap.size ≤ i) ∧ Keep None w w')) → K p' (n + m) c' w') :
    ∃ (p' : Option Addr) (n' c' : Nat), ∃ w' : World, (Builtin.append_ #[t, t] ty #[.slice p n c, .slice q m mc]).run P w = .ok (.slice p' n' c') w' ∧ K p' n' c' w' := by
  obtain ⟨i, hi, hi'⟩ := Option.map_eq_some_iff.1 hi0
  simp only [Prod.mk.injEq] at hi'
  obtain ⟨hz, rfl, rfl⟩ := hi'
  have hsmall : n + m ≤ 9223372036854775807 := by simp only [maxLen] at h63; omega
  have kd : ∀ o, Keep None w (w.drew.alloc o) := fun o => ((Keep.refl _ w).drew).alloc o
  have hlen0 := hO.len
  -- the grown row
  have grown : ∀ (hl : news.length = m * i.size) (old : Nat), old < n + m →
      Own (w.drew.alloc (.cells (xs.toArray ++ news.toArray ++ Builtin.zeroCells z.cells (grownCap w (n + m) old e - (n + m))) e)) e i.size (some ⟨w.heap.size, 0, none⟩) (n + m) (grownCap w (n + m) old e) (xs ++ news) := by
    intro hl old ho
    have hge := grownCap_ge w (n + m) old e
    have hcm : grownCap w (n + m) old e ≤ maxLen := grownCap_le_maxLen w (n + m) old e h63
    refine Or.inr ⟨w.heap.size, (xs.toArray ++ news.toArray ++ Builtin.zeroCells z.cells (grownCap w (n + m) old e - (n + m))).toList, rfl, heap_alloc_new w.drew _, hge, hcm, ?_, ?_⟩
    · simp only [Array.length_toList, Array.size_append, List.size_toArray, size_zeroCells, hzs, hlen0, hl, ← Nat.add_mul]
      congr 1
      omega
    · have hlen : (xs ++ news).length = (n + m) * i.size := by rw [List.length_append, hlen0, hl, Nat.add_mul]
      simp only [Array.toList_append]
      rw [← hlen]
      exact List.take_left
  rcases hN with ⟨rfl, rfl, rfl, rfl⟩ | ⟨a, rfl, hl, hnews⟩
  · -- nothing
    refine ⟨p, n, c, w, ?_, hk p c w (by simpa using hO) (Or.inl ⟨rfl, rfl, by have := hO.le; omega, Keep.refl _ w⟩)⟩
    rcases hO with ⟨rfl, rfl, rfl, rfl⟩ | ⟨g, cs, rfl, hB, hnc, hcm, hcs, rfl⟩
    · simp [Builtin.append_, run_underlying ht, sizeOf, typeInfo, hi, Builtin.lenOf, Builtin.firstCells, loadCells, loadCellsFrom]
    · simp [Builtin.append_, run_underlying ht, sizeOf, typeInfo, hi, Builtin.lenOf, Builtin.firstCells, loadCells, loadCellsFrom, hnc, storeCells]

  · rcases hO with ⟨rfl, rfl, rfl, rfl⟩ | ⟨g, cs, rfl, hB, hnc, hcm, hcs, rfl⟩
    · by_cases hm : m = 0
      · subst hm
        have hn : news = [] := List.eq_nil_of_length_eq_zero (by simpa using hl)
        subst hn
        refine ⟨Option.none, 0, 0, w, ?_, hk Option.none 0 w (by simpa using Own.nil w e i.size) (Or.inl ⟨rfl, rfl, by omega, Keep.refl _ w⟩)⟩
        simp [Builtin.append_, run_underlying ht, sizeOf, typeInfo, hi, Builtin.lenOf, Builtin.firstCells, loadCells, loadCellsFrom]
      · have hr := run_append_nil (P := P) w t ty e i z ht hi hz a m mc news hl hnews (by omega) (by omega) (by have hb := hbytes; simp only [Nat.zero_add] at hb; omega)
        have hgr := grown hl 0 (by omega)
        simp only [Nat.zero_add, List.nil_append, Array.empty_append] at hgr hk ⊢
        exact ⟨_, _, _, _, hr, hk _ _ _ hgr (Or.inr ⟨fun i ⟨a, h, h'⟩ => by cases h; exact Nat.le_of_eq h', kd _⟩)⟩
    · have hxs : (cs.take (n * i.size)).length = n * i.size := hlen0
      by_cases hroom : n + m ≤ c
      · have hle : (n + m) * i.size ≤ c * i.size := Nat.mul_le_mul_right _ hroom
        rw [Nat.add_mul] at hle
        have hfit : n * i.size + news.length ≤ cs.toArray.size := by rw [hl, List.size_toArray, hcs]; exact hle
        have hr := run_append_room (P := P) w t ty e i ht hi g n c cs.toArray hB a m mc news hl hnews h1 hroom hfit
        refine ⟨_, _, _, _, hr, hk _ _ _ (Or.inr ⟨g, cs.take (n * i.size) ++ news ++ cs.drop (n * i.size + news.length), rfl, setRow_heap w g cs.toArray _ e _ hB, hroom, hcm, ?_, ?_⟩) (Or.inl ⟨rfl, rfl, hroom, ⟨rfl, rfl, rfl, by simp, fun k _ hk' => setRow_other w g k _ (fun e => hk' (e ▸ ⟨_, rfl, rfl⟩))⟩⟩)⟩
        · simp only [List.length_append, hxs, List.length_drop, hl]
          omega
        · have hlen : (cs.take (n * i.size) ++ news).length = (n + m) * i.size := by rw [List.length_append, hxs, hl, Nat.add_mul]
          rw [← hlen]
          exact List.take_left
      · have holds : ∀ j u, (cs.take (n * i.size))[j]? = some u → w.cell? ((⟨g, 0, none⟩ : Addr).add j) = some u := fun j u hu => by
          rw [add_mk, Nat.zero_add, hB.cell]
          rw [List.getElem?_take] at hu
          split at hu
          · exact hu
          · cases hu
        have hr := run_append_grow (P := P) w t ty e i z ht hi hz ⟨g, 0, none⟩ n c (cs.take (n * i.size)) hxs holds a m mc news hl hnews (by omega) (by omega) (growslice_fits (by omega) hbytes)
        have hgr := grown hl c (by omega)
        exact ⟨_, _, _, _, hr, hk _ _ _ hgr (Or.inr ⟨fun i ⟨a, h, h'⟩ => by cases h; exact Nat.le_of_eq h', kd _⟩)⟩
/-- .. of more bytes -/
theorem app_of3 {P : Program} {w : World} {t ty e : TypeId} {sz B : Nat} {z : Value} {p : Option Addr} {n c : Nat} {xs : List Value} {q : Option Addr} {m mc : Nat} {news : List Value}
    {K : Option Addr → Nat → Nat → World → Prop}
    (ht : P.underlying t = some (.slice e)) (hi0 : (P.info? e).map (fun i => (i.zero, i.size, i.bytes)) = some (some z, sz, B)) (hzs : z.cells.size = sz) (hsz : 0 < sz)
    (hO : Own w e sz p n c xs) (hN : News w sz q m mc news) (h1 : ∀ u ∈ news, u.oneCell' = true) (h63 : n + m ≤ maxLen) (hbytes : ((n + m) + (n + m) / 4 + 192) * B ≤ 281474976710656)
    (hk : ∀ p' c' w', Own w' e sz p' (n + m) c' (xs ++ news) → ((p' = p ∧ c' = c ∧ n + m ≤ c ∧ Keep (ob p) w w') ∨ ((∀ i, ob p' i → w.heap.size ≤ i) ∧ Keep None w w')) → K p' (n + m) c' w') :
    ∃ (p' : Option Addr) (n' c' : Nat), ∃ w' : World, (Builtin.append_ #[t, t] ty #[.slice p n c, .slice q m mc]).run P w = .ok (.slice p' n' c') w' ∧ K p' n' c' w' := by
  obtain ⟨i, hi, hi'⟩ := Option.map_eq_some_iff.1 hi0
  simp only [Prod.mk.injEq] at hi'
  obtain ⟨hz, rfl, rfl⟩ := hi'
  have hsmall : n + m ≤ 9223372036854775807 := by simp only [maxLen] at h63; omega
  have kd : ∀ o, Keep None w (w.drew.alloc o) := fun o => ((Keep.refl _ w).drew).alloc o
  have hlen0 := hO.len
  -- the grown row
  have grown : ∀ (hl : news.length = m * i.size) (old : Nat), old < n + m →
      Own (w.drew.alloc (.cells (xs.toArray ++ news.toArray ++ Builtin.zeroCells z.cells (grownCap w (n + m) old e - (n + m))) e)) e i.size (some ⟨w.heap.size, 0, none⟩) (n + m) (grownCap w (n + m) old e) (xs ++ news) := by
    intro hl old ho
    have hge := grownCap_ge w (n + m) old e
    have hcm : grownCap w (n + m) old e ≤ maxLen := grownCap_le_maxLen w (n + m) old e h63
    refine Or.inr ⟨w.heap.size, (xs.toArray ++ news.toArray ++ Builtin.zeroCells z.cells (grownCap w (n + m) old e - (n + m))).toList, rfl, heap_alloc_new w.drew _, hge, hcm, ?_, ?_⟩
    · simp only [Array.length_toList, Array.size_append, List.size_toArray, size_zeroCells, hzs, hlen0, hl, ← Nat.add_mul]
      congr 1
      omega
    · have hlen : (xs ++ news).length = (n + m) * i.size := by rw [List.length_append, hlen0, hl, Nat.add_mul]
      simp only [Array.toList_append]
      rw [← hlen]
      exact List.take_left
  rcases hN with ⟨rfl, rfl, rfl, rfl⟩ | ⟨a, rfl, hl, hnews⟩
  · -- nothing
    refine ⟨p, n, c, w, ?_, hk p c w (by simpa using hO) (Or.inl ⟨rfl, rfl, by have := hO.le; omega, Keep.refl _ w⟩)⟩
    rcases hO with ⟨rfl, rfl, rfl, rfl⟩ | ⟨g, cs, rfl, hB, hnc, hcm, hcs, rfl⟩
    · simp [Builtin.append_, run_underlying ht, sizeOf, typeInfo, hi, Builtin.lenOf, Builtin.firstCells, loadCells, loadCellsFrom]
    · simp [Builtin.append_, run_underlying ht, sizeOf, typeInfo, hi, Builtin.lenOf, Builtin.firstCells, loadCells, loadCellsFrom, hnc, storeCells]

  · rcases hO with ⟨rfl, rfl, rfl, rfl⟩ | ⟨g, cs, rfl, hB, hnc, hcm, hcs, rfl⟩
    · by_cases hm : m = 0
      · subst hm
        have hn : news = [] := List.eq_nil_of_length_eq_zero (by simpa using hl)
        subst hn
        refine ⟨Option.none, 0, 0, w, ?_, hk Option.none 0 w (by simpa using Own.nil w e i.size) (Or.inl ⟨rfl, rfl, by omega, Keep.refl _ w⟩)⟩
        simp [Builtin.append_, run_underlying ht, sizeOf, typeInfo, hi, Builtin.lenOf, Builtin.firstCells, loadCells, loadCellsFrom]
      · have hr := run_append_nil (P := P) w t ty e i z ht hi hz a m mc news hl hnews (by omega) (by omega) (by have hb := hbytes; simp only [Nat.zero_add] at hb; exact Nat.le_trans (Nat.mul_le_mul_right _ (by omega)) hb)
        have hgr := grown hl 0 (by omega)
        simp only [Nat.zero_add, List.nil_append, Array.empty_append] at hgr hk ⊢
        exact ⟨_, _, _, _, hr, hk _ _ _ hgr (Or.inr ⟨fun i ⟨a, h, h'⟩ => by cases h; exact Nat.le_of_eq h', kd _⟩)⟩
    · have hxs : (cs.take (n * i.size)).length = n * i.size := hlen0
      by_cases hroom : n + m ≤ c
      · have hle : (n + m) * i.size ≤ c * i.size := Nat.mul_le_mul_right _ hroom
        rw [Nat.add_mul] at hle
        have hfit : n * i.size + news.length ≤ cs.toArray.size := by rw [hl, List.size_toArray, hcs]; exact hle
        have hr := run_append_room (P := P) w t ty e i ht hi g n c cs.toArray hB a m mc news hl hnews h1 hroom hfit
        refine ⟨_, _, _, _, hr, hk _ _ _ (Or.inr ⟨g, cs.take (n * i.size) ++ news ++ cs.drop (n * i.size + news.length), rfl, setRow_heap w g cs.toArray _ e _ hB, hroom, hcm, ?_, ?_⟩) (Or.inl ⟨rfl, rfl, hroom, ⟨rfl, rfl, rfl, by simp, fun k _ hk' => setRow_other w g k _ (fun e => hk' (e ▸ ⟨_, rfl, rfl⟩))⟩⟩)⟩
        · simp only [List.length_append, hxs, List.length_drop, hl]
          omega
        · have hlen : (cs.take (n * i.size) ++ news).length = (n + m) * i.size := by rw [List.length_append, hxs, hl, Nat.add_mul]
          rw [← hlen]
          exact List.take_left
      · have holds : ∀ j u, (cs.take (n * i.size))[j]? = some u → w.cell? ((⟨g, 0, none⟩ : Addr).add j) = some u := fun j u hu => by
          rw [add_mk, Nat.zero_add, hB.cell]
          rw [List.getElem?_take] at hu
          split at hu
          · exact hu
          · cases hu
        have hr := run_append_grow (P := P) w t ty e i z ht hi hz ⟨g, 0, none⟩ n c (cs.take (n * i.size)) hxs holds a m mc news hl hnews (by omega) (by omega) (growslice_fits_wide (by omega) hbytes)
        have hgr := grown hl c (by omega)
        exact ⟨_, _, _, _, hr, hk _ _ _ hgr (Or.inr ⟨fun i ⟨a, h, h'⟩ => by cases h; exact Nat.le_of_eq h', kd _⟩)⟩
end Go.Proofs.Ytjpblaenebodlaa.Vc

/- Lists of ints in memory: what the other texts need of the Apart texts, where no ApartInts is reached. -/
set_option linter.unusedVariables false
set_option linter.unusedSimpArgs false
set_option maxRecDepth 100000
namespace Go.Proofs.Ytjpblaenebodlaa.Apart
open Go Go.Proofs.Ytjpblaenebodlaa.Vc

abbrev J (n : Int) : Value := .int .i64 n
abbrev Sl := Option Addr × Nat × Nat
def sv (x : Sl) : Value := .slice x.1 x.2.1 x.2.2
theorem getE {α : Type} {l : List α} {k : Nat} (h : k < l.length) : ∃ x, l[k]? = some x := ⟨_, List.getElem?_eq_getElem h⟩
theorem own_len {w : World} {e : TypeId} {p : Option Addr} {n c : Nat} {ys : List Int} (h : Own w e 1 p n c (ys.map J)) : ys.length = n := by
  have := h.len; simpa using this
theorem wrap_nat (i : Nat) (h : i < 4611686018427387904) : IntKind.wrap .i64 ((i : Int) + 1) = ((i + 1 : Nat) : Int) := by rw [IntKind.wrap_i64]; omega
theorem own_wr {w : World} {x : Sl} {ys : List Int} {i : Nat} {v : Int} {K : World → Prop} (h : Own w 3 1 x.1 x.2.1 x.2.2 (ys.map J)) (hi : i < x.2.1)
    (hK : ∀ w', Own w' 3 1 x.1 x.2.1 x.2.2 ((ys.set i v).map J) → Keep (ob x.1) w w' → K w') : ixA x.1 x.2.1 (i : Int) 1 fun a => st w (a.add 0) (J v) K := by
  refine h.ix (by omega) (by omega) fun b hb => ?_
  rw [Nat.mul_one, Int.toNat_natCast, add_mk, Nat.add_zero]
  have h' := h
  rw [hb] at h'
  refine h'.st (by omega) rfl fun w' hO hk _ => ?_
  refine hK w' ?_ (hk.mono fun j _ hj => ⟨_, hb, hj.symm⟩)
  rw [List.map_set, hb]
  exact hO
theorem own_rd {w : World} {x : Sl} {ys : List Int} {i : Nat} {v : Int} {K : Int → Prop} (h : Own w 3 1 x.1 x.2.1 x.2.2 (ys.map J)) (hi : i < x.2.1) (hv : ys[i]? = some v)
    (hK : K v) : ixA x.1 x.2.1 (i : Int) 1 fun a => ldI .i64 w a K := by
  refine h.ix (by omega) (by omega) fun b hb => ?_
  rw [Nat.mul_one, Int.toNat_natCast]
  have h' := h
  rw [hb] at h'
  exact ldI_of (by rw [h'.cell _ (by omega), List.getElem?_map, hv]; rfl) hK
/-- .. where more is asked of the cell -/
theorem own_rd2 {w : World} {x : Sl} {ys : List Int} {i : Nat} {v : Int} {K : Addr → Prop} (h : Own w 3 1 x.1 x.2.1 x.2.2 (ys.map J)) (hi : i < x.2.1) (hv : ys[i]? = some v)
    (hK : ∀ a, w.cell? a = some (J v) → K a) : ixA x.1 x.2.1 (i : Int) 1 K := by
  refine h.ix (by omega) (by omega) fun b hb => ?_
  rw [Nat.mul_one, Int.toNat_natCast]
  have h' := h
  rw [hb] at h'
  exact hK _ (by rw [h'.cell _ (by omega), List.getElem?_map, hv]; rfl)

theorem app1 {w : World} {g : Sl} {ys : List Int} {v : Int} {K : Option Addr → Nat → Nat → World → Prop} (hO : Own w 3 1 g.1 g.2.1 g.2.2 (ys.map J)) (hs : g.2.1 < 17592186044416)
    (hk : ∀ g' : Sl, ∀ w', g'.2.1 = g.2.1 + 1 → Own w' 3 1 g'.1 g'.2.1 g'.2.2 ((ys ++ [v]).map J) → ((g'.1 = g.1 ∧ g'.2.2 = g.2.2 ∧ Keep (ob g.1) w w') ∨ ((∀ i, ob g'.1 i → w.heap.size ≤ i) ∧ Keep None w w')) → K g'.1 g'.2.1 g'.2.2 w') :
    alc w [J v] 3 fun b w7 => ∃ (p' : Option Addr) (n' c' : Nat), ∃ w' : World, (Builtin.append_ #[29, 29] 29 #[.slice g.1 g.2.1 g.2.2, .slice (some ⟨b, 0, none⟩) 1 1]).run Try.prog w7 = .ok (.slice p' n' c') w' ∧ K p' n' c' w' := by
  refine alc_at fun b w7 hb7 h7 k7 => ?_
  have z7 := k7.size
  refine app_of2 (e := 3) (sz := 1) (z := J 0) (B := 8) Try.underlying29 (by kernel_rfl) rfl (by omega) (hO.keep0 k7) h7.news1 (fun u hu => ?_) (by simp only [maxLen]; omega) (by omega) fun p' c' w' hO' hd => ?_
  · simp only [List.mem_singleton] at hu; subst hu; rfl
  · refine hk (p', g.2.1 + 1, c') w' rfl (by simpa using hO') ?_
    rcases hd with ⟨e1, e2, _, k⟩ | ⟨e1, k⟩
    · exact Or.inl ⟨e1, e2, (k7.none).trans k fun _ _ h => h⟩
    · exact Or.inr ⟨fun i hi => by have := e1 i hi; omega, k7.then0 k⟩
end Go.Proofs.Ytjpblaenebodlaa.Apart
