/- Structs of whole numbers and truths, held against one another. -/
import Derived.Test.YtjpblaenebodlaaVcU
import Derived.Laws.StructEq
set_option linter.unusedVariables false
set_option linter.unusedSimpArgs false
namespace Go.Proofs.Ytjpblaenebodlaa.Vc
open Go

def eqL : (ls : List Leaf) → TupL ls → TupL ls → Bool
  | [], _, _ => true
  | .int _ :: ls, x, y => decide (x.1 = y.1) && eqL ls x.2 y.2
  | .bool :: ls, x, y => (x.1 == y.1) && eqL ls x.2 y.2
  | _ :: _, _, _ => false
def isIntB (P : Program) (t : TypeId) : Bool := match P.underlying t with | some (.int _) => true | _ => false
def isBoolB (P : Program) (t : TypeId) : Bool := match P.underlying t with | some .bool => true | _ => false
def flatF (P : Program) : List Field → List Leaf → Nat → Bool
  | [], [], _ => true
  | f :: fs, l :: ls, i => decide (f.name ≠ "_") && (Nat.beq f.offset i && ((match l with | .int _ => isIntB P f.type | .bool => isBoolB P f.type | _ => false) && flatF P fs ls (i + 1)))
  | _, _, _ => false
def flatS (P : Program) (t : TypeId) (ls : List Leaf) : Bool :=
  (match P.underlying t with | some (.struct fs) => flatF P fs.toList ls 0 | _ => false) && (!(P.stoodInHeld t) && !(P.eqGuardType P.depth t))
theorem run_part1 {P : Program} {t : TypeId} {cs : Array Value} {i : Nat} {v : Value} (ha : isAggB P t = some false) (hv : cs[i]? = some v) (w : World) : (part t cs i).run P w = .ok v w := by
  simp [part, run_isAgg ha, hv]
theorem eqFields_flat {P : Program} {d : Nat} {X Y : Array Value} {w : World} : ∀ (fs : List Field) (ls : List Leaf) (i : Nat) (x y : TupL ls), flatF P fs ls i = true →
    (∀ j v, (lvals ls x)[j]? = some v → X[i + j]? = some v) → (∀ j v, (lvals ls y)[j]? = some v → Y[i + j]? = some v) →
    (Op.eqFields (d + 1) X Y fs).run P w = .ok (eqL ls x y) w := by
  intro fs
  induction fs with
  | nil =>
    intro ls i x y h hx hy
    cases ls with
    | nil => simp [Op.eqFields, eqL]
    | cons l ls => simp [flatF] at h
  | cons f fs ih =>
    intro ls i x y h hx hy
    cases ls with
    | nil => simp [flatF] at h
    | cons l ls =>
      simp only [flatF, Bool.and_eq_true, decide_eq_true_eq] at h
      obtain ⟨h1, h2, h3, h4⟩ := h
      have h2 := Nat.eq_of_beq_eq_true h2
      have hx0 := hx 0 (lval l x.1) rfl
      have hy0 := hy 0 (lval l y.1) rfl
      rw [Nat.add_zero, ← h2] at hx0 hy0
      have ih' := ih ls (i + 1) x.2 y.2 h4 (fun j v hj => by have := hx (j + 1) v hj; rwa [show i + (j + 1) = i + 1 + j by omega] at this)
        (fun j v hj => by have := hy (j + 1) v hj; rwa [show i + (j + 1) = i + 1 + j by omega] at this)
      cases l <;> simp only [] at h3 <;> try (cases h3; done)
      case int k =>
        unfold isIntB at h3
        split at h3
        · rename_i k' hu
          have ha : isAggB P f.type = some false := by unfold isAggB; rw [hu]
          simp only [Op.eqFields]
          rw [if_pos h1]
          simp only [Sem.run_bind, run_part1 ha hx0, run_part1 ha hy0, Result.andThen_ok, lval, run_equalIn_int w d f.type k k' _ _ hu, Sem.run_ite, Sem.run_pure, ih']
          by_cases he : x.1 = y.1
          · simp [eqL, he]
          · simp [eqL, he]
        · cases h3
      case bool =>
        unfold isBoolB at h3
        split at h3
        · rename_i hu
          have ha : isAggB P f.type = some false := by unfold isAggB; rw [hu]
          simp only [Op.eqFields]
          rw [if_pos h1]
          simp only [Sem.run_bind, run_part1 ha hx0, run_part1 ha hy0, Result.andThen_ok, lval, run_equalIn_bool' w d f.type _ _ hu, Sem.run_ite, Sem.run_pure, ih']
          have : ∀ b c : Bool, (b == c) = true ∨ (b == c) = false := fun b c => by cases b <;> cases c <;> simp
          rcases this x.1 y.1 with he | he
          · simp [eqL, he]
          · simp [eqL, he]
        · cases h3
theorem eqV_flat {P : Program} {t : TypeId} {ls : List Leaf} (x y : TupL ls) (h : flatS P t ls = true) (w : World) : (Op.equalIn 10000 t (.agg (lvals ls x).toArray) (.agg (lvals ls y).toArray)).run P w = .ok (eqL ls x y) w := by
  unfold flatS at h
  simp only [Bool.and_eq_true, Bool.not_eq_true'] at h
  obtain ⟨h1, h2, h3⟩ := h
  split at h1
  · rename_i fs hu
    have hf : P.fieldsOf t = fs := by simp [Program.fieldsOf, hu]
    rw [run_equalIn_struct w 9999 t _ _ (by rw [hf]; exact hu) h2, hf]
    exact eqFields_flat fs.toList ls 0 x y h1 (fun j v hj => by simpa using hj) (fun j v hj => by simpa using hj)
  · cases h1
theorem eqV_eql {P : Program} {t : TypeId} (ls : List Leaf) (x y : TupL ls) (h : flatS P t ls = true) {K : Bool → Prop} (hk : K (eqL ls x y)) : eqV P .eql t (.agg (lvals ls x).toArray) (.agg (lvals ls y).toArray) K := by
  refine ⟨_, fun w a b => ?_, hk⟩
  have hg : P.eqGuardType P.depth t = false := by simp only [flatS, Bool.and_eq_true, Bool.not_eq_true'] at h; exact h.2.2
  rw [Sem.run_bind, run_eqGuard_agg w .eql t a b _ _ hg, Result.andThen_ok, run_eql_struct, eqV_flat x y h]
  rfl
theorem eqV_neq {P : Program} {t : TypeId} (ls : List Leaf) (x y : TupL ls) (h : flatS P t ls = true) {K : Bool → Prop} (hk : K (!(eqL ls x y))) : eqV P .neq t (.agg (lvals ls x).toArray) (.agg (lvals ls y).toArray) K := by
  refine ⟨_, fun w a b => ?_, hk⟩
  have hg : P.eqGuardType P.depth t = false := by simp only [flatS, Bool.and_eq_true, Bool.not_eq_true'] at h; exact h.2.2
  rw [Sem.run_bind, run_eqGuard_agg w .neq t a b _ _ hg, Result.andThen_ok, run_neq_struct, eqV_flat x y h]
  rfl
end Go.Proofs.Ytjpblaenebodlaa.Vc
