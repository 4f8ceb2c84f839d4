/- What holds of a row place by place. -/
import Derived.Test.YtioaaeianjgaoaaLive
set_option linter.unusedVariables false
set_option linter.unusedSimpArgs false
namespace Go.Proofs.Ytioaaeianjgaoaa.Trail
open Go Go.Proofs.Ytioaaeianjgaoaa.Vc Go.Proofs.Ytioaaeianjgaoaa.T

theorem marks_append (B : List E) : ∀ A : List E, ∃ X : List Int, marks (A ++ B) = marks A ++ X ∧ ∀ x ∈ X, (A.length : Int) ≤ x := by
  induction B with
  | nil => intro A; exact ⟨[], by simp, by simp⟩
  | cons x B ih =>
    intro A
    obtain ⟨X, h1, h2⟩ := ih (A ++ [x])
    rw [List.append_assoc] at h1
    refine ⟨(if x.rs < 0 then [(A.length : Int)] else []) ++ X, ?_, ?_⟩
    · show marks (A ++ ([x] ++ B)) = _
      rw [h1, marks_snoc, List.append_assoc]
    · intro y hy
      rcases List.mem_append.1 hy with hy | hy
      · split at hy
        · simp only [List.mem_singleton] at hy
          omega
        · cases hy
      · have := h2 y hy
        rw [List.length_append] at this
        simp at this
        omega
theorem place_of {n : Nat} {R : List E} {L : List Int} (h : St n R L) : ∀ (i : Nat) (e : E), R[i]? = some e → e.lv = (marks (R.take (i + 1))).length ∧ (e.rs = -1 ∨ 0 ≤ e.rs) := by
  induction h with
  | nil => intro i e h; simp at h
  | @imply R L l r h ho hf hr ih =>
    intro i e he
    by_cases hi : i < R.length
    · rw [List.getElem?_append_left hi] at he
      rw [List.take_append_of_le_length (by omega)]
      exact ih i e he
    · have hi2 := (List.getElem?_eq_some_iff.1 he).1
      rw [List.length_append, List.length_singleton] at hi2
      obtain rfl : i = R.length := by omega
      rw [List.getElem?_append_right (Nat.le_refl _), Nat.sub_self, List.getElem?_cons_zero] at he
      injection he with he
      subst he
      rw [List.take_of_length_le (by simp), marks_snoc, h.marks, if_neg (by simp only []; omega)]
      exact ⟨by simp, Or.inr hr⟩
  | @decide R L l h ho hf ih =>
    intro i e he
    by_cases hi : i < R.length
    · rw [List.getElem?_append_left hi] at he
      rw [List.take_append_of_le_length (by omega)]
      exact ih i e he
    · have hi2 := (List.getElem?_eq_some_iff.1 he).1
      rw [List.length_append, List.length_singleton] at hi2
      obtain rfl : i = R.length := by omega
      rw [List.getElem?_append_right (Nat.le_refl _), Nat.sub_self, List.getElem?_cons_zero] at he
      injection he with he
      subst he
      rw [List.take_of_length_le (by simp), marks_snoc, h.marks, if_pos (by simp)]
      exact ⟨by simp, Or.inl rfl⟩
/-- the mark behind those ahead of a place -/
theorem mark_of {n : Nat} {R : List E} {L : List Int} (h : St n R L) {i : Nat} {e : E} (he : R[i]? = some e) : (L[(marks (R.take i)).length]? = some (i : Int) ↔ e.rs < 0) ∧ marks (R.take (i + 1)) = marks (R.take i) ++ (if e.rs < 0 then [(i : Int)] else []) := by
  have hi := (List.getElem?_eq_some_iff.1 he).1
  have et : R.take (i + 1) = R.take i ++ [e] := by rw [List.take_add_one, he]; rfl
  have em : marks (R.take (i + 1)) = marks (R.take i) ++ (if e.rs < 0 then [(i : Int)] else []) := by
    rw [et, marks_snoc]
    have : (R.take i).length = i := by simp; omega
    rw [this]
  obtain ⟨X, h1, h2⟩ := marks_append (R.drop (i + 1)) (R.take (i + 1))
  rw [List.take_append_drop, h.marks] at h1
  have hl : (R.take (i + 1)).length = i + 1 := by simp; omega
  refine ⟨?_, em⟩
  rw [h1, em]
  by_cases hr : e.rs < 0
  · rw [if_pos hr]
    simp [hr]
  · rw [if_neg hr, List.append_nil, List.getElem?_append_right (Nat.le_refl _), Nat.sub_self]
    refine ⟨fun hh => ?_, fun hh => absurd hh hr⟩
    have := h2 _ (List.mem_of_getElem? hh)
    rw [hl] at this
    omega
theorem ent_of {n : Nat} {R : List E} {L : List Int} (h : St n R L) {e : E} (he : e ∈ R) : ent R e.lit.natAbs = some e := by
  have hnd := h.nodup
  unfold ent
  clear h
  induction R with
  | nil => cases he
  | cons x R ih =>
    rw [List.map_cons, List.nodup_cons] at hnd
    rw [List.find?_cons]
    rcases List.mem_cons.1 he with rfl | he
    · simp
    · have : (x.lit.natAbs == e.lit.natAbs) = false := by
        have : x.lit.natAbs ≠ e.lit.natAbs := fun hh => hnd.1 (hh ▸ List.mem_map.2 ⟨e, he, rfl⟩)
        simpa using this
      rw [this]
      exact ih he hnd.2
end Go.Proofs.Ytioaaeianjgaoaa.Trail
