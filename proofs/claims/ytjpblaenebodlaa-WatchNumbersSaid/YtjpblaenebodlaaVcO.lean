/- What an argument that reads as data is made of, type by type. -/
import Derived.Test.YtjpblaenebodlaaVcR
import Derived.Deep.Slices
set_option linter.unusedVariables false
set_option linter.unusedSimpArgs false
namespace Go.Proofs.Ytjpblaenebodlaa.Vc
open Go Go.ChangeShapes Go.WideShapes Go.ChangeAt Go.RowKit

/-- the cells' values by their type, as deep as m -/
def Fits (P : Program) (w : World) : Nat → TypeId → List Value → Prop
  | 0, _, _ => True
  | m + 1, t, cs =>
    match P.underlying t with
    | some .bool => ∃ b, cs = [.bool b]
    | some (.int k) => ∃ n, cs = [.int k n] ∧ (Lit.int k n).wf = true
    | some (.float k) => ∃ n, cs = [.float k n] ∧ (Lit.float k n).wf = true
    | some .string => ∃ s : ByteArray, cs = [.string s] ∧ s.size ≤ maxLen
    | some (.slice e) => cs = [.slice none 0 0] ∨ ∃ (a : Addr) (len cap : Nat), cs = [.slice (some a) len cap] ∧ len ≤ cap ∧ cap ≤ maxLen ∧
        ∀ i, i < cap → ∃ cs', w.cells? 0 (a.add (i * P.cellsOf e)) (P.cellsOf e) = some cs' ∧ Fits P w m e cs'
    | some (.struct fs) => cs.length = P.cellsOf t ∧ ∀ (i : Nat) (f : Field), fs[i]? = some f → Fits P w m f.type ((cs.drop f.offset).take (P.cellsOf f.type))
    | some (.array n e) => cs.length = P.cellsOf t ∧ ∀ i, i < n → Fits P w m e ((cs.drop (i * P.cellsOf e)).take (P.cellsOf e))
    | _ => True

section
variable {H : Type} {enc : TypeId × Value → H} {P : Program} {w : World}
theorem trod_float {k : FloatKind} {t : TypeId} {cs : List Value} {x : DataW H × List MemPlace} {base : Nat} {spare : Nat → Bool} {held : Bool} {fuel : Nat} (ht : P.underlying t = some (.float k)) (h : DataW.trod enc P w base spare held fuel t cs = some x) :
    ∃ n, cs = [.float k n] ∧ (Lit.float k n).wf = true := by
  cases fuel with
  | zero => simp [DataW.trod] at h
  | succ n =>
    unfold DataW.trod at h
    rw [ht] at h
    split at h <;> simp_all

theorem fits_trod : ∀ (fuel : Nat) (t : TypeId) (cs : List Value) (x : DataW H × List MemPlace), DataW.trod enc P w 0 (fun _ => true) true fuel t cs = some x → ∀ m, Fits P w m t cs := by
  intro fuel
  induction fuel with
  | zero => intro t cs x h; simp [DataW.trod] at h
  | succ fuel ih =>
    intro t cs x h m
    cases m with
    | zero => trivial
    | succ m =>
      unfold Fits
      split
      · rename_i ht
        obtain ⟨b, e, _⟩ := DataW.trod_bool ht h
        exact ⟨b, e⟩
      · rename_i ht
        obtain ⟨b, e, _, hw⟩ := DataW.trod_int ht h
        exact ⟨b, e, hw⟩
      · rename_i ht
        exact trod_float ht h
      · rename_i ht
        obtain ⟨b, e, _, hw⟩ := DataW.trod_string ht h
        exact ⟨b, e, hw⟩
      · rename_i ht
        rcases Go.Deep.open_slice ht h with ⟨h0, _⟩ | ⟨a, len, cap, mm, n, D, Pl, e, _, hl, hm, hmm, _, hx⟩
        · exact Or.inl h0
        · refine Or.inr ⟨a, len, cap, e, hl, hm, fun i hi => ?_⟩
          obtain ⟨cs', h1, h2⟩ := hx i (by rw [hmm]; simpa using hi)
          refine ⟨cs', h1, ?_⟩
          have hs := DataW.trod_slice ht h
          rcases hs with ⟨h0, _⟩ | ⟨a', len', cap', elems, rest, n', hf, e', _, _, _, _, _, hel, hsp, _⟩
          · rw [h0] at e; simp at e
          · rw [e'] at e
            simp only [List.cons.injEq, Value.slice.injEq, Option.some.injEq, and_true] at e
            obtain ⟨rfl, rfl, rfl⟩ := e
            obtain rfl : fuel = n' := by omega
            by_cases hil : i < len'
            · have h3 := hel i hil
              rw [h1] at h3
              have h4 : elems[i]? = DataW.trod enc P w 0 (fun _ => true) true fuel _ cs' := h3.symm
              rcases hq : DataW.trod enc P w 0 (fun _ => true) true fuel _ cs' with _ | y
              · rw [hq] at h4
                have := List.getElem?_eq_none_iff.1 h4
                rename_i hlen _ _ _ _ _ _ _ _ _
                omega
              · exact ih _ _ _ hq m
            · have h3 := (hsp rfl).2 (i - len') (by omega)
              rw [show len' + (i - len') = i by omega, h1] at h3
              rcases hq : DataW.trod enc P w 0 (fun _ => true) true fuel _ cs' with _ | y
              · have h4 : rest[i - len']? = DataW.trod enc P w 0 (fun _ => true) true fuel _ cs' := h3.symm
                rw [hq] at h4
                have := List.getElem?_eq_none_iff.1 h4
                have := (hsp rfl).1
                omega
              · exact ih _ _ _ hq m
      · rename_i ht
        obtain ⟨xs, n, hf, _, hl, hxl, hx⟩ := DataW.trod_struct ht h
        obtain rfl : fuel = n := by omega
        refine ⟨hl, fun i f hi => ?_⟩
        have h3 := hx i f hi
        have hlt : i < xs.length := by rw [hxl]; exact (Array.getElem?_eq_some_iff.1 hi).1
        rw [List.getElem?_eq_getElem hlt] at h3
        exact ih _ _ _ h3 m
      · rename_i ht
        obtain ⟨xs, n, hf, _, hl, hxl, hx⟩ := DataW.trod_array ht h
        obtain rfl : fuel = n := by omega
        refine ⟨hl, fun i hi => ?_⟩
        have h3 := hx i hi
        rw [List.getElem?_eq_getElem (by omega)] at h3
        exact ih _ _ _ h3 m
      · trivial

theorem fits_of {t : TypeId} {v : Value} {d : DataW H} {ps : List MemPlace} (h : DataW.Trod enc P w 0 (fun _ => true) true t v d ps) (m : Nat) : Fits P w m t v.cells.toList := by
  obtain ⟨fuel, hf⟩ := h
  exact fits_trod fuel _ _ _ hf m

theorem agg_of_struct {W : World} {base : Nat} {t : TypeId} {v : Value} {fs : Array Field} (ht : P.underlying t = some (.struct fs)) (hv : Value.okWide P W .any base t v) : ∃ cs, v = .agg cs := by
  unfold Value.okWide at hv
  rw [ht] at hv
  obtain ⟨cs, h, _⟩ := hv
  exact ⟨cs, h⟩
end
end Go.Proofs.Ytjpblaenebodlaa.Vc
