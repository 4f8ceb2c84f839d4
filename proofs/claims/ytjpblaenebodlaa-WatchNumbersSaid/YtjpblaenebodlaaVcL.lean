/- Rows of any size: each slice and text that is met weighs at most what a process can address; the row's form with that told. -/
import Derived.Test.YtjpblaenebodlaaVcO
set_option linter.unusedVariables false
set_option linter.unusedSimpArgs false
namespace Go.Proofs.Ytjpblaenebodlaa.Vc
open Go Go.ChangeShapes Go.WideShapes Go.ChangeAt Go.RowKit

/-- every slice that is met is no heavier than can be addressed -/
def Wk (P : Program) (w : World) : Nat → TypeId → List Value → Prop
  | 0, _, _ => True
  | m + 1, t, cs => match P.underlying t with
    | some .string => ∀ s, cs = [.string s] → s.size ≤ reachBytes
    | some (.slice e) => ∀ p n c, cs = [.slice p n c] → c * P.bytesOf e ≤ reachBytes ∧ ∀ a, p = some a → ∀ i, i < n → ∀ cs', w.cells? 0 (a.add (i * P.cellsOf e)) (P.cellsOf e) = some cs' → Wk P w m e cs'
    | some (.struct fs) => ∀ (i : Nat) (f : Field), fs[i]? = some f → Wk P w m f.type ((cs.drop f.offset).take (P.cellsOf f.type))
    | _ => True

section
variable {H : Type} {enc : TypeId × Value → H} {P : Program} {w : World}
theorem weights_all {e : TypeId} : ∀ {l : List (DataW H)} {d : DataW H}, d ∈ l → (DataW.weightsAll P e l).all (· ≤ reachBytes) = true → (d.weights P e).all (· ≤ reachBytes) = true := by
  intro l
  induction l with
  | nil => intro d h; cases h
  | cons x l ih =>
    intro d h hw
    unfold DataW.weightsAll at hw
    rw [List.all_append, Bool.and_eq_true] at hw
    rcases List.mem_cons.1 h with rfl | h
    · exact hw.1
    · exact ih h hw.2
theorem weights_each : ∀ {ts : List TypeId} {l : List (DataW H)} {i : Nat} {t : TypeId} {d : DataW H}, ts[i]? = some t → l[i]? = some d → (DataW.weightsEach P ts l).all (· ≤ reachBytes) = true → (d.weights P t).all (· ≤ reachBytes) = true := by
  intro ts
  induction ts with
  | nil => intro l i t d h; simp at h
  | cons t0 ts ih =>
    intro l i t d h1 h2 hw
    cases l with
    | nil => simp at h2
    | cons d0 l =>
      unfold DataW.weightsEach at hw
      rw [List.all_append, Bool.and_eq_true] at hw
      cases i with
      | zero =>
        simp only [List.getElem?_cons_zero, Option.some.injEq] at h1 h2
        subst h1; subst h2; exact hw.1
      | succ i =>
        simp only [List.getElem?_cons_succ] at h1 h2
        exact ih h1 h2 hw.2
theorem wk_trod : ∀ (fuel : Nat) (t : TypeId) (cs : List Value) (x : DataW H × List MemPlace), DataW.trod enc P w 0 (fun _ => true) true fuel t cs = some x → (x.1.weights P t).all (· ≤ reachBytes) = true → ∀ m, Wk P w m t cs := by
  intro fuel
  induction fuel with
  | zero => intro t cs x h; simp [DataW.trod] at h
  | succ fuel ih =>
    intro t cs x h hB m
    cases m with
    | zero => trivial
    | succ m =>
      unfold Wk
      split
      · rename_i ht
        obtain ⟨b, e, hx, hw⟩ := DataW.trod_string ht h
        intro s hs
        rw [hs] at e
        simp only [List.cons.injEq, Value.string.injEq, and_true] at e
        subst e
        rw [hx] at hB
        simp only [DataW.weights, List.all_cons, List.all_nil, Bool.and_true, decide_eq_true_eq] at hB
        have : s.data.size = s.size := rfl
        first | omega | (simp at hB; omega)
      · rename_i ht
        intro p n c hs
        rcases DataW.trod_slice ht h with ⟨h0, _⟩ | ⟨a, len, cap, elems, rest, n', hf, e, hx, _, hlc, _, hl, hel, hsp, _⟩
        · rw [h0] at hs
          simp only [List.cons.injEq, Value.slice.injEq, and_true] at hs
          obtain ⟨rfl, rfl, rfl⟩ := hs
          exact ⟨by omega, fun a h => by cases h⟩
        · rw [e] at hs
          simp only [List.cons.injEq, Value.slice.injEq, and_true] at hs
          obtain ⟨rfl, rfl, rfl⟩ := hs
          obtain rfl : fuel = n' := by omega
          rw [hx] at hB
          simp only [DataW.weights, ht, List.all_cons, Bool.and_eq_true, decide_eq_true_eq, List.all_append] at hB
          obtain ⟨hr, _⟩ := hsp rfl
          obtain ⟨hB1, hB2, _⟩ := hB
          simp only [List.length_map, hl, hr] at hB1
          rw [Nat.add_sub_cancel' hlc] at hB1
          refine ⟨hB1, fun a' ha i hi cs' hc => ?_⟩
          injection ha with ha
          subst ha
          have h2 := hel i hi
          rw [hc] at h2
          have hlt : i < elems.length := by omega
          rw [List.getElem?_eq_getElem hlt] at h2
          have hm : elems[i].1 ∈ elems.map (·.1) := List.mem_map.2 ⟨_, List.getElem_mem hlt, rfl⟩
          exact ih _ _ _ h2 (weights_all hm hB2) m
      · rename_i fs ht
        obtain ⟨xs, n, hf, hx, hl, hxl, hxi⟩ := DataW.trod_struct ht h
        obtain rfl : fuel = n := by omega
        intro i f hi
        have h3 := hxi i f hi
        have hlt : i < xs.length := by rw [hxl]; exact (Array.getElem?_eq_some_iff.1 hi).1
        rw [List.getElem?_eq_getElem hlt] at h3
        rw [hx] at hB
        simp only [DataW.weights, ht] at hB
        refine ih _ _ _ h3 (weights_each (i := i) (ts := fs.toList.map (·.type)) (l := xs.map (·.1)) ?_ ?_ hB) m
        · rw [List.getElem?_map, Array.getElem?_toList, hi]; rfl
        · rw [List.getElem?_map, List.getElem?_eq_getElem hlt]; rfl
      · trivial
theorem wk_of {t : TypeId} {v : Value} {d : DataW H} {ps : List MemPlace} (h : DataW.Trod enc P w 0 (fun _ => true) true t v d ps) (hB : (d.weights P t).all (· ≤ reachBytes) = true) (m : Nat) : Wk P w m t v.cells.toList := by
  obtain ⟨fuel, hf⟩ := h
  exact wk_trod fuel _ _ _ hf hB m

/-- a row of a law that answers true and only reads; what is met is no heavier than can be addressed -/
theorem row_sized {C : Checked} {os : Os} {k : FuncId} {fn : Func} {s : ChangeSpec} {conds : List PathCond} {apart fresh : Bool} {tb : TypeId}
    (own : ownKnob C.prog.godebug = none) (started : os.Started) (noInit : C.prog.inits.idxOf? k = none) (hfn : C.prog.funcs[k]? = some fn)
    (witness : ∃ (w : World) (tape : Tape) (i : Input), w.os = os ∧ (w.forCall tape i).Shaped C.prog ∧ i.vars = [] ∧ Input.okWide C.prog (w.forCall tape i) .any w.heap.size k i ∧
      s.pre6 enc C.prog fn conds apart (w.forCall tape i).memory i.args ∧ ({} : Assume).holds C.prog (lone (Frame.enter C.prog k i.args .normal) [] (w.forCall tape i)))
    (hl : laidOutB C.prog = true) (hread : fn.params.toList.all (fun t => C.prog.readableRec t && decide (t < C.prog.types.size)) = true)
    (hvars : s.vars = []) (hres : fn.resultTypes = #[tb]) (hb : C.prog.underlying tb = some .bool)
    (hspec : ∀ ds : List (DataW H), ds.length = fn.params.toList.length → (s.fn H ds).results = [.lit (.bool true)] ∧ (s.fn H ds).args = ds ∧ (s.fn H ds).vars = [])
    (walk : ∀ (W : World) (base : Nat) (args : Array Value) (ds : List (DataW H)) (ps : List MemPlace),
      (∀ (j : Nat) t v, fn.params[j]? = some t → args[j]? = some v → Value.okWide C.prog W .any base t v) →
      DataW.TrodAll enc C.prog W 0 (fun _ => true) true fn.params.toList args.toList ds ps → (DataW.weightsEach C.prog fn.params.toList ds).all (· ≤ reachBytes) = true →
      Calls C.prog k args W fun e W' => e = .returned (.bool true) ∧ Below W.heap.size W W') :
    ReturnsInHanded {} C os k .any (s.pre6 enc C.prog fn conds apart) (s.post enc C.prog fn apart fresh false false) := by
  refine returnsInHanded_of_change_sized own started noInit hfn witness ?_
  intro W base args ds gs before hval hW hcnd hsz _
  have hW' := hW
  obtain ⟨p, q, hA, hV, rfl, hfz, hnd⟩ := hW
  rw [hvars] at hV
  obtain ⟨rfl, rfl⟩ := trodVars_none hV
  have hvt : s.plain.varTypes C.prog = [] := by
    have : s.plain.vars = [] := hvars
    unfold DataSpec.varTypes
    rw [this]; rfl
  rw [hvt, List.append_nil, List.append_nil] at hsz
  refine (walk W base args ds p hval hA hsz).mono fun e W' ⟨he, bel⟩ => ?_
  subst he
  have hn := hspec ds (trodAll_length _ _ _ _ hA)
  refine ⟨_, rfl, ds, [], p ++ [], [], p, [], hW', ?_, ?_, ?_, bel.frame _, fun h => by cases h⟩
  · rw [List.append_nil, hn.1, hres]
    exact trodAll_mk1 (shut_bool hb _)
  · rw [List.append_nil, hn.2.1]
    exact trodAll_below hl bel _ _ _ _ hread hA
  · rw [List.append_nil, hn.2.2, hvars]
    rfl
end
end Go.Proofs.Ytjpblaenebodlaa.Vc
