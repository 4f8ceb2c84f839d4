/- Maps from ints to ints: made, looked up, updated. -/
import Derived.Test.YtlbpllpomdjooaaVcA
import Derived.MapKept
set_option linter.unusedVariables false
set_option linter.unusedSimpArgs false
namespace Go.Proofs.Ytlbpllpomdjooaa.Vc
open Go

/-- a map's pairs, in the order in which they came -/
def Mp (w : World) (r : Nat) (f : List (Int × Int)) : Prop := ∃ es clock, w.heap[r]? = some (.map es clock) ∧ es.toList.map (fun e => (e.key, e.val)) = f.map fun p => ((.int .i64 p.1 : Value), (.int .i64 p.2 : Value))
def mget (k : Int) : List (Int × Int) → Int
  | [] => 0
  | p :: f => if p.1 = k then p.2 else mget k f
def mput (k v : Int) : List (Int × Int) → List (Int × Int)
  | [] => [(k, v)]
  | p :: f => if p.1 = k then (k, v) :: f else p :: mput k v f
theorem mget_mput (k v j : Int) : ∀ f, mget j (mput k v f) = if j = k then v else mget j f := by
  intro f
  induction f with
  | nil => simp [mput, mget, eq_comm]
  | cons p f ih =>
    unfold mput
    by_cases h : p.1 = k
    · rw [if_pos h]
      by_cases hj : j = k
      · simp [mget, hj]
      · simp [mget, h, hj, Ne.symm hj]
    · rw [if_neg h]
      unfold mget
      by_cases hp : p.1 = j
      · have : ¬ j = k := fun e => h (hp.trans e)
        rw [if_pos hp, if_pos hp, if_neg this]
      · rw [if_neg hp, if_neg hp, ih]
/-- is the key there? -/
def mhas (k : Int) : List (Int × Int) → Bool
  | [] => false
  | p :: f => decide (p.1 = k) || mhas k f
theorem mput_len (k v : Int) : ∀ f, (mput k v f).length = f.length + if mhas k f = true then 0 else 1 := by
  intro f
  induction f with
  | nil => simp [mput, mhas]
  | cons p f ih =>
    unfold mput
    by_cases h : p.1 = k
    · rw [if_pos h, if_pos (by simp [mhas, h])]; rfl
    · rw [if_neg h, List.length_cons, ih]
      have : mhas k (p :: f) = mhas k f := by simp [mhas, h]
      rw [this]
      simp [Nat.add_right_comm]
theorem mhas_mput (k v j : Int) : ∀ f, mhas j (mput k v f) = (decide (j = k) || mhas j f) := by
  intro f
  induction f with
  | nil => simp [mput, mhas, eq_comm]
  | cons p f ih =>
    unfold mput
    by_cases h : p.1 = k
    · rw [if_pos h]
      by_cases hj : j = k
      · simp [mhas, hj]
      · have h1 : ¬ k = j := fun e => hj e.symm
        have h2 : ¬ p.1 = j := fun e => hj (by rw [← e, h])
        simp [mhas, hj, h1, h2]
    · rw [if_neg h]
      simp only [mhas]
      rw [ih, ← Bool.or_assoc, ← Bool.or_assoc, Bool.or_comm (decide (p.1 = j))]
theorem mput_no {k v : Int} : ∀ {f : List (Int × Int)}, mhas k f = false → mput k v f = f ++ [(k, v)] := by
  intro f
  induction f with
  | nil => intro _; rfl
  | cons p f ih =>
    intro h
    have h' : p.1 ≠ k ∧ mhas k f = false := by simpa [mhas] using h
    rw [mput, if_neg h'.1, ih h'.2]; rfl
theorem Mp.keep {S : Nat → Prop} {w w' : World} {r : Nat} {f : List (Int × Int)} (h : Mp w r f) (hk : Keep S w w') (hs : ¬ S r) : Mp w' r f := by
  obtain ⟨es, clock, hb, he⟩ := h
  exact ⟨es, clock, by rw [hk.block r (Array.getElem?_eq_some_iff.1 hb).1 hs]; exact hb, he⟩
theorem Mp.keep0 {w w' : World} {r : Nat} {f : List (Int × Int)} (h : Mp w r f) (hk : Keep None w w') : Mp w' r f := h.keep hk fun h => h
theorem Mp.lt {w : World} {r : Nat} {f : List (Int × Int)} (h : Mp w r f) : r < w.heap.size := by
  obtain ⟨es, clock, hb, he⟩ := h
  exact (Array.getElem?_eq_some_iff.1 hb).1
theorem mkmap_of {P : Program} {t : TypeId} {w : World} {K : Option Nat → World → Prop} (hk : ∀ r w', r = w.heap.size → Mp w' r [] → Keep None w w' → K (some r) w') :
    ∃ x : Option Nat, ∃ w1 : World, (Instr.makeMap t none).run P w = .ok (.map x) w1 ∧ K x w1 :=
  ⟨some w.heap.size, w.alloc (.map #[] 0), by simp [Instr.makeMap], hk _ _ rfl ⟨#[], 0, (MapKept.heap_alloc w _).1, rfl⟩ ((Keep.refl _ w).alloc _)⟩
theorem findNow_int (k : Int) : ∀ (l : List MapEntry) (f : List (Int × Int)) (i : Nat), l.map (fun e => (e.key, e.val)) = f.map (fun p => ((.int .i64 p.1 : Value), (.int .i64 p.2 : Value))) →
    (mhas k f = false ∧ Instr.findNow (.int .i64) (.int .i64 k) l i = some none) ∨
    (mhas k f = true ∧ ∃ j, Instr.findNow (.int .i64) (.int .i64 k) l i = some (some (i + j, .int .i64 (mget k f))) ∧ ∃ e, l[j]? = some e ∧ e.key = .int .i64 k ∧
      ∀ v : Int, (l.modify j fun e => { e with key := .int .i64 k, val := .int .i64 v }).map (fun e => (e.key, e.val)) = (mput k v f).map fun p => ((.int .i64 p.1 : Value), (.int .i64 p.2 : Value))) := by
  intro l
  induction l with
  | nil =>
    intro f i h
    cases f with
    | nil => exact Or.inl ⟨rfl, rfl⟩
    | cons p f => cases h
  | cons e l ih =>
    intro f i h
    cases f with
    | nil => cases h
    | cons p f =>
      simp only [List.map_cons, List.cons.injEq, Prod.mk.injEq] at h
      obtain ⟨⟨hk, hv⟩, h⟩ := h
      by_cases hp : p.1 = k
      · refine Or.inr ⟨by simp [mhas, hp], 0, ?_, e, rfl, by rw [hk, hp], fun v => ?_⟩
        · simp [Instr.findNow, hk, Instr.sameNow, hp, hv, mget]
        · simp [mput, hp, h]
      · have hs : Instr.sameNow (.int .i64) (.int .i64 k) e.key = some false := by rw [hk]; simp [Instr.sameNow]; exact fun e => hp e.symm
        have hm : mhas k (p :: f) = mhas k f := by simp [mhas, hp]
        rcases ih f (i + 1) h with ⟨h1, h2⟩ | ⟨h1, j, h2, e', h3, h4, h5⟩
        · exact Or.inl ⟨by rw [hm]; exact h1, by simp only [Instr.findNow, hs]; exact h2⟩
        · refine Or.inr ⟨by rw [hm]; exact h1, j + 1, ?_, e', by simpa using h3, h4, fun v => ?_⟩
          · simp only [Instr.findNow, hs, mget, if_neg hp]
            rw [h2]
            congr 3
            omega
          · simp only [mput, if_neg hp, List.modify_succ_cons, List.map_cons, h5 v, hk, hv]
theorem mget_no {k : Int} : ∀ {f : List (Int × Int)}, mhas k f = false → mget k f = 0 := by
  intro f
  induction f with
  | nil => intro _; rfl
  | cons p f ih =>
    intro h
    have h' : p.1 ≠ k ∧ mhas k f = false := by simpa [mhas] using h
    rw [mget, if_neg h'.1, ih h'.2]
section
variable {P : Program} {mty kt et : TypeId} {w : World} {r : Nat} {f : List (Int × Int)}
theorem lk_of {K : Int → World → Prop} {k : Int} (hm : P.underlying mty = some (.map kt et)) (hd : P.underlying kt = some (.int .i64)) (hz : (P.info? et).map (·.zero) = some (some (.int .i64 0))) (h : Mp w r f) (hk : K (mget k f) w) :
    ∃ x : Int, ∃ w' : World, (Instr.lookup mty (.map (some r)) (.int .i64 k) false).run P w = .ok (.int .i64 x) w' ∧ K x w' := by
  obtain ⟨es, clock, hb, he⟩ := h
  refine ⟨mget k f, w, ?_, hk⟩
  have hkey : MapKept.IsKey (.int .i64) (.int .i64 k) := rfl
  obtain ⟨i, hi, hzi⟩ := Option.map_eq_some_iff.1 hz
  have hzv : (zeroValue et).run P w = .ok (.int .i64 0) w := by
    simp [zeroValue, typeInfo, hi, hzi, Result.andThen]
  rcases findNow_int k es.toList f 0 he with ⟨h1, h2⟩ | ⟨h1, j, h2, _⟩
  · simp [Instr.lookup, run_underlying hm, MapKept.run_getObj_map hb, MapKept.run_checkKey hd hkey, MapKept.run_findKey hd h2, hzv, Result.andThen, mget_no h1]
  · simp [Instr.lookup, run_underlying hm, MapKept.run_getObj_map hb, MapKept.run_checkKey hd hkey, MapKept.run_findKey hd h2, Result.andThen]
theorem up_of {K : World → Prop} {k v : Int} (hm : P.underlying mty = some (.map kt et)) (hd : P.underlying kt = some (.int .i64)) (h : Mp w r f) (hk : ∀ w', Mp w' r (mput k v f) → Keep (One r) w w' → w'.heap.size = w.heap.size → K w') :
    ∃ w' : World, (Instr.mapUpdate mty (.map (some r)) (.int .i64 k) (.int .i64 v)).run P w = .ok () w' ∧ K w' := by
  obtain ⟨es, clock, hb, he⟩ := h
  have hkey : MapKept.IsKey (.int .i64) (.int .i64 k) := rfl
  have kp : ∀ o, Keep (One r) w { w with heap := w.heap.setIfInBounds r o } := fun o => ⟨rfl, rfl, rfl, by simp, fun i hi hn => (MapKept.heap_set hb).2 i hn⟩
  rcases findNow_int k es.toList f 0 he with ⟨h1, h2⟩ | ⟨h1, j, h2, e, h3, h4, h5⟩
  · refine ⟨{ w with heap := w.heap.setIfInBounds r (.map (es.push { key := .int .i64 k, val := .int .i64 v, born := clock }) (clock + 1)) }, ?_, hk _ ⟨_, _, (MapKept.heap_set hb).1, ?_⟩ (kp _) (by simp)⟩
    · simp [Instr.mapUpdate, run_underlying hm, MapKept.run_getObj_map hb, MapKept.run_checkKey hd hkey, MapKept.run_findKey hd h2, MapKept.run_setObj_map _ hb, Result.andThen]
    · have := mput_no (v := v) h1
      rw [this]
      simp [he]
  · have hj : es[j]? = some e := by simpa using h3
    refine ⟨{ w with heap := w.heap.setIfInBounds r (.map (es.modify j fun e => { e with key := .int .i64 k, val := .int .i64 v }) clock) }, ?_, hk _ ⟨_, _, (MapKept.heap_set hb).1, ?_⟩ (kp _) (by simp)⟩
    · simp [Instr.mapUpdate, run_underlying hm, MapKept.run_getObj_map hb, MapKept.run_checkKey hd hkey, MapKept.run_findKey hd h2, hj, h4, MapKept.run_keyThatStays hkey, MapKept.run_setObj_map _ hb, Result.andThen]
    · rw [Array.toList_modify]
      exact h5 v
end
end Go.Proofs.Ytlbpllpomdjooaa.Vc
