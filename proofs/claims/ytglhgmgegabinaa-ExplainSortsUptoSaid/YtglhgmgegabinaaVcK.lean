/- Rows whose input is of bounded bulk: how long the slices are that are met in reading it; the row's form. -/
import Derived.Test.YtglhgmgegabinaaVcO
import Derived.JoinedCond
set_option linter.unusedVariables false
set_option linter.unusedSimpArgs false
namespace Go.Proofs.Ytglhgmgegabinaa.Vc
open Go Go.ChangeShapes Go.WideShapes Go.ChangeAt Go.RowKit
open Go.Proofs.Ytglhgmgegabinaa.Rows hiding none

theorem bulk_mem {H : Type} : ∀ {l : List (DataW H)} {d : DataW H}, d ∈ l → uptoBulk d ≤ uptoBulkAll l := by
  intro l
  induction l with
  | nil => intro d h; cases h
  | cons x l ih =>
    intro d h
    unfold uptoBulkAll
    rcases List.mem_cons.1 h with rfl | h
    · omega
    · have := ih h; omega
theorem bulk_pos {H : Type} (d : DataW H) : 1 ≤ uptoBulk d := by
  cases d with
  | lit l => cases l <;> simp [uptoBulk]
  | _ => simp [uptoBulk]
theorem bulk_len {H : Type} : ∀ (l : List (DataW H)), l.length ≤ uptoBulkAll l := by
  intro l
  induction l with
  | nil => simp [uptoBulkAll]
  | cons x l ih => unfold uptoBulkAll; have := bulk_pos x; simp only [List.length_cons]; omega

/-- no slice and no text that is met is longer than that -/
def Bk (P : Program) (w : World) (B : Nat) : Nat → TypeId → List Value → Prop
  | 0, _, _ => True
  | m + 1, t, cs => match P.underlying t with
    | some .string => ∀ s, cs = [.string s] → s.size ≤ B
    | some (.slice e) => ∀ p n c, cs = [.slice p n c] → n ≤ B ∧ ∀ a, p = some a → ∀ i, i < n → ∀ cs', w.cells? 0 (a.add (i * P.cellsOf e)) (P.cellsOf e) = some cs' → Bk P w B m e cs'
    | some (.struct fs) => ∀ (i : Nat) (f : Field), fs[i]? = some f → Bk P w B m f.type ((cs.drop f.offset).take (P.cellsOf f.type))
    | some (.array n e) => ∀ i, i < n → Bk P w B m e ((cs.drop (i * P.cellsOf e)).take (P.cellsOf e))
    | _ => True

section
variable {H : Type} {enc : TypeId × Value → H} {P : Program} {w : World}
theorem bk_trod {B : Nat} : ∀ (fuel : Nat) (t : TypeId) (cs : List Value) (x : DataW H × List MemPlace), DataW.trod enc P w 0 (fun _ => true) true fuel t cs = some x → uptoBulk x.1 ≤ B → ∀ m, Bk P w B m t cs := by
  intro fuel
  induction fuel with
  | zero => intro t cs x h; simp [DataW.trod] at h
  | succ fuel ih =>
    intro t cs x h hB m
    cases m with
    | zero => trivial
    | succ m =>
      unfold Bk
      split
      · rename_i ht
        obtain ⟨b, e, hx, hw⟩ := DataW.trod_string ht h
        intro s hs
        rw [hs] at e
        simp only [List.cons.injEq, Value.string.injEq, and_true] at e
        subst e
        rw [hx] at hB
        simp only [uptoBulk] at hB
        have : s.data.size = s.size := rfl
        first | omega | (simp at hB; omega)
      · rename_i ht
        intro p n c hs
        rcases DataW.trod_slice ht h with ⟨h0, _⟩ | ⟨a, len, cap, elems, rest, n', hf, e, hx, _, _, _, hl, hel, _⟩
        · rw [h0] at hs
          simp only [List.cons.injEq, Value.slice.injEq, and_true] at hs
          obtain ⟨rfl, rfl, rfl⟩ := hs
          exact ⟨Nat.zero_le _, fun a h => by cases h⟩
        · rw [e] at hs
          simp only [List.cons.injEq, Value.slice.injEq, and_true] at hs
          obtain ⟨rfl, rfl, rfl⟩ := hs
          obtain rfl : fuel = n' := by omega
          rw [hx] at hB
          simp only [uptoBulk] at hB
          have h1 := bulk_len (elems.map (·.1))
          rw [List.length_map, hl] at h1
          refine ⟨by omega, fun a' ha i hi cs' hc => ?_⟩
          injection ha with ha
          subst ha
          have h2 := hel i hi
          rw [hc] at h2
          have hlt : i < elems.length := by omega
          rw [List.getElem?_eq_getElem hlt] at h2
          have hm : elems[i].1 ∈ elems.map (·.1) := List.mem_map.2 ⟨_, List.getElem_mem hlt, rfl⟩
          have := bulk_mem hm
          exact ih _ _ _ h2 (by omega) m
      · rename_i ht
        obtain ⟨xs, n, hf, hx, hl, hxl, hxi⟩ := DataW.trod_struct ht h
        obtain rfl : fuel = n := by omega
        intro i f hi
        have h3 := hxi i f hi
        have hlt : i < xs.length := by rw [hxl]; exact (Array.getElem?_eq_some_iff.1 hi).1
        rw [List.getElem?_eq_getElem hlt] at h3
        rw [hx] at hB
        simp only [uptoBulk] at hB
        have hm : xs[i].1 ∈ xs.map (·.1) := List.mem_map.2 ⟨_, List.getElem_mem hlt, rfl⟩
        have := bulk_mem hm
        exact ih _ _ _ h3 (by omega) m
      · rename_i ht
        obtain ⟨xs, n, hf, hx, hl, hxl, hxi⟩ := DataW.trod_array ht h
        obtain rfl : fuel = n := by omega
        intro i hi
        have h3 := hxi i hi
        rw [List.getElem?_eq_getElem (by omega)] at h3
        rw [hx] at hB
        simp only [uptoBulk] at hB
        have hm : xs[i].1 ∈ xs.map (·.1) := List.mem_map.2 ⟨_, List.getElem_mem (by omega), rfl⟩
        have := bulk_mem hm
        exact ih _ _ _ h3 (by omega) m
      · trivial
theorem bk_of {B : Nat} {t : TypeId} {v : Value} {d : DataW H} {ps : List MemPlace} (h : DataW.Trod enc P w 0 (fun _ => true) true t v d ps) (hB : uptoBulk d ≤ B) (m : Nat) : Bk P w B m t v.cells.toList := by
  obtain ⟨fuel, hf⟩ := h
  exact bk_trod fuel _ _ _ hf hB m

/-- a row of a law that answers true and only reads, where what is read is of bounded bulk -/
theorem row_upto {C : Checked} {os : Os} {k : FuncId} {fn : Func} {s : ChangeSpec} {F : Stop.Interp} {conds : List PathCond} {apart fresh : Bool} {tb : TypeId}
    (own : ownKnob C.prog.godebug = none) (started : os.Started) (noInit : C.prog.inits.idxOf? k = none) (hfn : C.prog.funcs[k]? = some fn)
    (witness : ∃ (w : World) (tape : Tape) (i : Input), w.os = os ∧ (w.forCall tape i).Shaped C.prog ∧ i.vars = [] ∧ Input.okWide C.prog (w.forCall tape i) .any w.heap.size k i ∧
      (OpenSpec.upto s).pre6 enc C.prog fn conds apart (w.forCall tape i).memory i.args ∧ ({} : Assume).holds C.prog (lone (Frame.enter C.prog k i.args .normal) [] (w.forCall tape i)))
    (hl : laidOutB C.prog = true) (hread : fn.params.toList.all (fun t => C.prog.readableRec t && decide (t < C.prog.types.size)) = true)
    (hvars : s.vars = []) (hres : fn.resultTypes = #[tb]) (hb : C.prog.underlying tb = some .bool)
    (hspec : ∀ ds : List (DataW H), ds.length = fn.params.toList.length → (s.fn H ds).results = [.lit (.bool true)] ∧ (s.fn H ds).args = ds ∧ (s.fn H ds).vars = [])
    (walk : ∀ (W : World) (base : Nat) (args : Array Value) (ds : List (DataW H)) (ps : List MemPlace),
      (∀ (j : Nat) t v, fn.params[j]? = some t → args[j]? = some v → Value.okWide C.prog W .any base t v) →
      DataW.TrodAll enc C.prog W 0 (fun _ => true) true fn.params.toList args.toList ds ps → uptoBulkAll ds ≤ 1048576 →
      Calls C.prog k args W fun e W' => e = .returned (.bool true) ∧ Below W.heap.size W W') :
    ReturnsInHanded {} C os k .any ((OpenSpec.upto s).pre6 enc C.prog fn conds apart) (((OpenSpec.upto s).at F).post enc C.prog fn apart fresh false false) := by
  refine returnsInHanded_of_cond (s := OpenSpec.upto s) (k := uptoSmall) rfl own started noInit hfn witness ?_
  intro W base args ds gs before hval hW hcnd hsmall _
  have hW' := hW
  obtain ⟨p, q, hA, hV, rfl, hfz, hnd⟩ := hW
  have hvars' : (OpenSpec.upto s).vars = [] := hvars
  rw [hvars'] at hV
  obtain ⟨rfl, rfl⟩ := trodVars_none hV
  rw [List.append_nil] at hsmall
  have hsmall : uptoBulkAll ds ≤ 1048576 := by simpa [uptoSmall] using hsmall
  refine (walk W base args ds p hval hA hsmall).mono fun e W' ⟨he, bel⟩ => ?_
  subst he
  have hn := hspec ds (trodAll_length _ _ _ _ hA)
  refine ⟨_, rfl, ds, [], p ++ [], [], p, [], hW', ?_, ?_, ?_, bel.frame _, fun h => by cases h⟩
  · have e1 : (((OpenSpec.upto s).at F).fn H (ds ++ [])).results = [.lit (.bool true)] := by rw [List.append_nil]; exact hn.1
    rw [e1, hres]
    exact trodAll_mk1 (shut_bool hb _)
  · have e1 : (((OpenSpec.upto s).at F).fn H (ds ++ [])).args = ds := by rw [List.append_nil]; exact hn.2.1
    rw [e1]
    exact trodAll_below hl bel _ _ _ _ hread hA
  · have e1 : (((OpenSpec.upto s).at F).fn H (ds ++ [])).vars = [] := by rw [List.append_nil]; exact hn.2.2
    have e2 : ((OpenSpec.upto s).at F).vars = [] := hvars
    rw [e1, e2]
    rfl
end
end Go.Proofs.Ytglhgmgegabinaa.Vc
