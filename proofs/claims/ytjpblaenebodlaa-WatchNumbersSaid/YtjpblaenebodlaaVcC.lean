/- The verification-condition generator, third part: what an operation comes to, and the proof. -/
import Derived.Test.YtjpblaenebodlaaVcB
set_option linter.unusedVariables false
set_option linter.unusedSimpArgs false
namespace Go.Proofs.Ytjpblaenebodlaa.Vc
open Go

def concB (P : Program) (t : TypeId) : Bool := match P.underlying t with | some (.interface _) => false | none => false | _ => true
theorem concB_spec {P : Program} {t : TypeId} (h : concB P t = true) : P.concrete t = true := by
  unfold concB at h; unfold Program.concrete
  split at h <;> simp_all

/-- values laid into cells, part by part -/
def fillL (place : Nat → Option (Nat × Nat)) : List Value → List (Nat × Value) → Option (List Value)
  | cells, [] => some cells
  | cells, (i, v) :: rest => match place i with
    | none => none
    | some (off, size) => bif Nat.beq (cellsL v).length size && Nat.ble (off + (cellsL v).length) cells.length
      then fillL place (cells.take off ++ (cellsL v ++ cells.drop (off + (cellsL v).length))) rest else none

theorem foldl_set (vs : List Value) : ∀ (k : Nat) (off : Nat) (cs : Array Value), off + k + vs.length ≤ cs.size →
    ((vs.zipIdx k).foldl (fun cs (p : Value × Nat) => cs.setIfInBounds (off + p.2) p.1) cs).toList = cs.toList.take (off + k) ++ (vs ++ cs.toList.drop (off + k + vs.length)) := by
  induction vs with
  | nil => intro k off cs h; simp
  | cons v vs ih =>
    intro k off cs h
    simp only [List.length_cons] at h
    rw [List.zipIdx_cons, List.foldl_cons, ih (k + 1) off _ (by simp; omega)]
    simp only [Array.toList_setIfInBounds]
    rw [show off + (k + 1) = (off + k) + 1 by omega, List.take_succ_eq_append_getElem (by simp; omega), List.getElem_set_self, List.take_set_of_le (by omega)]
    rw [show off + k + 1 + vs.length = off + k + (vs.length + 1) by omega, List.drop_set_of_lt (by omega)]
    simp

theorem fillL_spec {place : Nat → Option (Nat × Nat)} : ∀ {parts : List (Nat × Value)} {cells cs : List Value}, fillL place cells parts = some cs →
    Instr.fill place cells.toArray parts = some cs.toArray
  | [], cells, cs, h => by simp [fillL] at h; subst h; rfl
  | (i, v) :: rest, cells, cs, h => by
    unfold fillL at h
    unfold Instr.fill
    split at h
    · cases h
    · rename_i off size hp
      simp only [hp]
      cases hb : Nat.beq (cellsL v).length size && Nat.ble (off + (cellsL v).length) cells.length with
      | false => rw [hb] at h; simp at h
      | true =>
        rw [hb] at h
        simp only [cond_true] at h
        simp only [Bool.and_eq_true] at hb
        have h1 := Nat.eq_of_beq_eq_true hb.1
        have h2 := Nat.le_of_ble_eq_true hb.2
        have hl : v.cells.size = (cellsL v).length := by simp [cellsL_eq]
        have hn : ¬ (v.cells.size ≠ size || off + v.cells.size > cells.toArray.size) = true := by
          simp [hl, h1]; rw [← h1]; exact h2
        rw [if_neg hn]
        have he : Array.foldl (fun cs (x : Value × Nat) => match x with | (c, j) => cs.setIfInBounds (off + j) c) cells.toArray v.cells.zipIdx
            = (cells.take off ++ (cellsL v ++ cells.drop (off + (cellsL v).length))).toArray := by
          apply Array.ext'
          have := foldl_set (cellsL v) 0 off cells.toArray (by simpa using h2)
          simp only [Nat.add_zero] at this
          rw [← this, ← Array.foldl_toList]
          simp [cellsL_eq]
        rw [he]
        exact fillL_spec h

def placesOf (P : Program) : List Field → Option (List (Nat × Nat))
  | [] => some []
  | f :: fs => match sizeOfT P f.type, placesOf P fs with
    | some n, some r => some ((f.offset, n) :: r)
    | _, _ => none
theorem placesOf_spec {P : Program} (w : World) : ∀ {fs : List Field} {r : List (Nat × Nat)}, placesOf P fs = some r →
    (fs.mapM (fun f => Prod.mk f.offset <$> sizeOf f.type : Field → Sem (Nat × Nat))).run P w = .ok r w
  | [], r, h => by simp [placesOf] at h; subst h; rfl
  | f :: fs, r, h => by
    unfold placesOf at h
    split at h
    · rename_i n r' hn hr
      simp at h; subst h
      have ih := placesOf_spec w hr
      simp [List.mapM_cons, sizeOfT_spec hn, ih]
    · cases h

def zeroT (P : Program) (t : TypeId) : Option Value := match P.info? t with | some i => i.zero | none => none
theorem zeroT_spec {P : Program} {t : TypeId} {v : Value} (h : zeroT P t = some v) (w : World) : (zeroValue t).run P w = .ok v w := by
  unfold zeroT at h; split at h
  · rename_i i hi; simp [zeroValue, typeInfo, hi, h]
  · cases h

/-- a struct or an array, built -/
def buildT (P : Program) (t : TypeId) (parts : List (Nat × Value)) : Option Value :=
  match zeroT P t, P.underlying t with
  | some z, some (.struct fs) => match placesOf P fs.toList with
    | some pl => match fillL (fun i => pl[i]?) (cellsL z) parts with
      | some cs => some (.agg cs.toArray)
      | none => none
    | none => none
  | some z, some (.array _ e) => match sizeOfT P e with
    | some n => match fillL (fun i => some (i * n, n)) (cellsL z) parts with
      | some cs => some (.agg cs.toArray)
      | none => none
    | none => none
  | _, _ => none
theorem buildT_spec {P : Program} {t : TypeId} {parts : List (Nat × Value)} {v : Value} (h : buildT P t parts = some v) (w : World) :
    (Instr.build t parts.toArray).run P w = .ok v w := by
  unfold buildT at h
  split at h
  · rename_i z fs hz hu
    split at h
    · rename_i pl hpl
      split at h
      · rename_i cs hcs
        simp at h; subst h
        have hf := fillL_spec hcs
        have hz' : (cellsL z).toArray = z.cells := by simp [cellsL_eq]
        rw [hz'] at hf
        have hm : (fs.mapM (fun f => do pure (f.offset, ← sizeOf f.type) : Field → Sem (Nat × Nat))).run P w = .ok pl.toArray w := by
          rw [Array.mapM_eq_mapM_toList]
          have ih := placesOf_spec w hpl
          simp [ih]
        simp only [Instr.build, Sem.run_bind, zeroT_spec hz, Result.andThen_ok, run_underlying hu, hm]
        simp [hf]
      · cases h
    · cases h
  · rename_i z n e hz hu
    split at h
    · rename_i m hm
      split at h
      · rename_i cs hcs
        simp at h; subst h
        have hf := fillL_spec hcs
        have hz' : (cellsL z).toArray = z.cells := by simp [cellsL_eq]
        rw [hz'] at hf
        simp only [Instr.build, Sem.run_bind, zeroT_spec hz, Result.andThen_ok, run_underlying hu, sizeOfT_spec hm]
        simp [hf]
      · cases h
    · cases h
  · cases h
end Go.Proofs.Ytjpblaenebodlaa.Vc
