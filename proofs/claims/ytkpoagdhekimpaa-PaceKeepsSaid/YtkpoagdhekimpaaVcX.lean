/- Functions that hold a range over an endless iterator. -/
import Derived.Test.YtkpoagdhekimpaaVcZ
import Derived.RangeFuncLeaves
set_option linter.unusedVariables false
set_option linter.unusedSimpArgs false
namespace Go.Proofs.Ytkpoagdhekimpaa.Vc
open Go

/-- the marks of the loops are come to -/
def outM : List Nat → World → (World → Prop) → Prop
  | [], w, K => K w
  | D :: ms, w, K => w.heap[D]? = some (.deferred (some [])) ∧ outM ms (w.putObj D (.deferred none)) K
def evF2 (P : Program) (fn : Func) (an : An2) (args : List Value) (w : World) (R : Value → World → Prop) : Prop :=
  match fn.body with
  | some c => evC2 P fn.ntmps an c (args.zipIdx.map fun (v, i) => ⟨i, [], v⟩) w fun ex e ms w' => match ex with
    | .normal => outM ms w' fun w2 => evRes P fn.results.toList e w2 fun vs => R (tupV vs) w2
    | .ret => outM ms w' fun w2 => evRes P fn.results.toList e w2 fun vs => R (tupV vs) w2
    | _ => False
  | none => False
theorem leaves_of {P : Program} {fn : Func} {e : Env} {a : Act} {R : Value → World → Prop} (hs : Sim e a) : ∀ {ms : List Nat} {w : World}, outM ms w (fun w2 => evRes P fn.results.toList e w2 fun vs => R (tupV vs) w2) →
    LeavesInM Fence.wide 0 P fn a.tmps (fun ex w' => ∃ v, ex = .returned v ∧ R v w') (marks ms) .returning w := by
  intro ms
  induction ms with
  | nil =>
    intro w h
    obtain ⟨vs, g1, g2⟩ := results_of hs h
    exact ⟨_, g1, _, rfl, g2⟩
  | cons D ms ih =>
    intro w h
    exact ⟨by simp, .inl ⟨_, _, rfl, run_takeDeferred h.1, ih h.2⟩⟩
theorem calls_of_ev2 {P : Program} {f : FuncId} {fn : Func} {an : An2} {args : List Value} {w : World} {R : Value → World → Prop}
    (hf : P.funcs[f]? = some fn) (hn : args.length ≤ fn.ntmps) (h : evF2 P fn an args w R) :
    Calls P f args.toArray w fun e w' => ∃ v, e = .returned v ∧ R v w' := by
  unfold evF2 at h
  split at h
  · rename_i c hb
    refine (callsIn_wide (n := 0)).1 (callsIn_of_wp_marks hf hb trivial ?_ rfl)
    refine wpIn_mono (evC2_spec an c _ w _ _ ?_ ?_ ?_ h) ?_
    · intro t en hl
      have key : ∀ (l : List Value) (k : Nat), look ((l.zipIdx k).map fun (v, i) => (⟨i, [], v⟩ : Ent)) t = some en → en.path = [] ∧ ∃ j, t = k + j ∧ l[j]? = some en.val := by
        intro l
        induction l with
        | nil => intro k h; simp [look] at h
        | cons v l ih =>
          intro k h
          simp only [List.zipIdx_cons, List.map_cons, look] at h
          cases hbb : Nat.beq k t with
          | true =>
            rw [hbb] at h; simp only [cond_true, Option.some.injEq] at h; subst h
            exact ⟨rfl, 0, (Nat.eq_of_beq_eq_true hbb).symm, rfl⟩
          | false =>
            rw [hbb] at h
            obtain ⟨h1, j, h2, h3⟩ := ih (k + 1) h
            exact ⟨h1, j + 1, by omega, by simpa using h3⟩
      obtain ⟨h1, j, h2, h3⟩ := key args 0 hl
      have hsl := look_slot hl
      refine ⟨fun _ => ?_, fun hno => absurd (by rw [h1]; exact On.nil _) hno⟩
      have hj : j < args.length := (List.getElem?_eq_some_iff.1 h3).1
      rw [hsl, h2, Nat.zero_add]
      simp only [Array.getElem?_append, List.size_toArray, hj, if_true]
      simpa using h3
    · intro x hx
      obtain ⟨y, hy, rfl⟩ := List.mem_map.1 hx
      rfl
    · simp; omega
    · intro ex a' w' hq
      obtain ⟨e', ms, h1, h2, h3, hd, h4⟩ := hq
      cases ex with
      | normal =>
        show LeavesInM _ _ _ _ _ _ a'.defers _ _
        rw [hd, List.append_nil]
        exact leaves_of h1 h4
      | ret =>
        show LeavesInM _ _ _ _ _ _ a'.defers _ _
        rw [hd, List.append_nil]
        exact leaves_of h1 h4
      | _ => exact h4.elim
  · exact h.elim
end Go.Proofs.Ytkpoagdhekimpaa.Vc
