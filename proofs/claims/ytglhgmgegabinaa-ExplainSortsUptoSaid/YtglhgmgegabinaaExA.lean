/- Faults in memory; a map whose keys are faults. -/
import Derived.Test.YtglhgmgegabinaaSort4
import Derived.Test.YtglhgmgegabinaaTEx
import Derived.Test.YtglhgmgegabinaaVcQ
import Derived.MapKept
import Derived.WideKeyRuns
import Derived.WideKeyEntry
set_option linter.unusedVariables false
set_option linter.unusedSimpArgs false
set_option linter.unusedSectionVars false
set_option maxRecDepth 100000
namespace Go.Proofs.Ytglhgmgegabinaa.Ex
open Go Go.Proofs.Ytglhgmgegabinaa.Vc Go.Proofs.Ytglhgmgegabinaa.T
open Go.Proofs.Ytglhgmgegabinaa.Sort (E JE ce fm fm_app fm_len fm_at fm_set)

abbrev I (n : Int) : Value := .int .i64 n
theorem eqE (x y : E) (w : World) : (Op.equal 30 (JE x) (JE y)).run Try.prog w = .ok (decide (x = y)) w := by
  have := eqV_flat (P := Try.prog) (t := 30) (ls := [.int .i64, .int .i64, .int .i64, .int .i64]) x y (by kernel_rfl) w
  have e : eqL [.int .i64, .int .i64, .int .i64, .int .i64] x y = decide (x = y) := by
    obtain ⟨a, b, c, d, ⟨⟩⟩ := x
    obtain ⟨a', b', c', d', ⟨⟩⟩ := y
    simp [eqL]
  rw [← e]
  exact this
theorem check3 (a : Int) (w : World) (em : Bool) : (Instr.checkKey em 9999 3 (I a)).run Try.prog w = .ok () w :=
  MapKept.run_checkKey (d := .int .i64) (k := I a) Try.underlying3 rfl em 9998
theorem part3 {cs : Array Value} {i : Nat} {a : Int} (h : cs[i]? = some (I a)) (w : World) : (part 3 cs i).run Try.prog w = .ok (I a) w := run_part1 (by kernel_rfl) h w
theorem checkE (x : E) (w : World) (em : Bool) : (Instr.checkKey em 10000 30 (JE x)).run Try.prog w = .ok () w := by
  show (Instr.checkKey em (9999 + 1) 30 (JE x)).run Try.prog w = .ok () w
  unfold Instr.checkKey
  simp [run_underlying Try.underlying30, JE]
  rw [part3 (a := x.1) (by rfl)]
  simp only [Result.andThen]
  rw [check3]
  simp only [Result.andThen]
  rw [part3 (a := x.2.1) (by rfl)]
  simp only [Result.andThen]
  rw [check3]
  simp only [Result.andThen]
  rw [part3 (a := x.2.2.1) (by rfl)]
  simp only [Result.andThen]
  rw [check3]
  simp only [Result.andThen]
  rw [part3 (a := x.2.2.2.1) (by rfl)]
  simp only [Result.andThen]
  rw [check3]

/-- the map's entries, in the order in which they came -/
def ents : Nat → List (E × Int) → List MapEntry
  | _, [] => []
  | i, p :: F => { key := JE p.1, val := I p.2, born := i } :: ents (i + 1) F
def MF (w : World) (r : Nat) (F : List (E × Int)) : Prop := ∃ es : Array MapEntry, w.heap[r]? = some (.map es F.length) ∧ es.toList = ents 0 F
def mgF (x : E) : List (E × Int) → Int
  | [] => 0
  | p :: F => if p.1 = x then p.2 else mgF x F
def fnd (x : E) : List (E × Int) → Nat → Option (Nat × Value)
  | [], _ => none
  | p :: F, i => if p.1 = x then some (i, I p.2) else fnd x F (i + 1)
theorem find_run (x : E) (w : World) : ∀ (F : List (E × Int)) (i j : Nat), (Instr.findAsking 30 (JE x) (ents j F) i).run Try.prog w = .ok (fnd x F i) w := by
  intro F
  induction F with
  | nil => intro i j; rfl
  | cons p F ih =>
    intro i j
    show (Instr.findAsking 30 (JE x) (_ :: ents (j + 1) F) i).run Try.prog w = _
    unfold Instr.findAsking fnd
    rw [Sem.run_bind, eqE]
    simp only [Result.andThen]
    by_cases h : p.1 = x
    · rw [if_pos h, decide_eq_true h.symm]; rfl
    · rw [if_neg h, decide_eq_false (fun e => h e.symm)]; exact ih (i + 1) (j + 1)
theorem findK_run (x : E) (w : World) (F : List (E × Int)) : (Instr.findKey 30 (JE x) (ents 0 F)).run Try.prog w = .ok (fnd x F 0) w := by
  rw [run_findKey_eq w (by kernel_rfl)]
  exact find_run x w F 0 0
theorem fnd_at (x : E) : ∀ (F : List (E × Int)) (i : Nat), (fnd x F i = none ∧ (∀ p ∈ F, p.1 ≠ x) ∧ mgF x F = 0) ∨ ∃ j v, fnd x F i = some (i + j, I v) ∧ F[j]? = some (x, v) ∧ mgF x F = v ∧ ∀ k p, k < j → F[k]? = some p → p.1 ≠ x := by
  intro F
  induction F with
  | nil => intro i; exact Or.inl ⟨rfl, (fun p h => by cases h), rfl⟩
  | cons p F ih =>
    intro i
    unfold fnd mgF
    by_cases h : p.1 = x
    · rw [if_pos h, if_pos h]
      exact Or.inr ⟨0, p.2, rfl, by rw [← h]; rfl, rfl, fun k q hk => by omega⟩
    · rw [if_neg h, if_neg h]
      rcases ih (i + 1) with ⟨h1, h2, h3⟩ | ⟨j, v, h1, h2, h3, h4⟩
      · exact Or.inl ⟨h1, fun q hq => by
          rcases List.mem_cons.1 hq with rfl | hq
          · exact h
          · exact h2 q hq, h3⟩
      · refine Or.inr ⟨j + 1, v, by rw [h1]; congr 2; omega, by simpa using h2, h3, fun k q hk hq => ?_⟩
        cases k with
        | zero => simp at hq; rw [← hq]; exact h
        | succ k => exact h4 k q (by omega) (by simpa using hq)
theorem ents_len : ∀ (F : List (E × Int)) (i : Nat), (ents i F).length = F.length := by
  intro F
  induction F with
  | nil => intro i; rfl
  | cons p F ih => intro i; show (ents (i + 1) F).length + 1 = _; rw [ih]; rfl
theorem ents_at : ∀ (F : List (E × Int)) (i j : Nat) (p : E × Int), F[j]? = some p → (ents i F)[j]? = some { key := JE p.1, val := I p.2, born := i + j } := by
  intro F
  induction F with
  | nil => intro i j p h; simp at h
  | cons q F ih =>
    intro i j p h
    cases j with
    | zero => simp at h; subst h; rfl
    | succ j => have := ih (i + 1) j p (by simpa using h); rw [show i + (j + 1) = i + 1 + j by omega]; exact this
theorem ents_app : ∀ (F : List (E × Int)) (i : Nat) (p : E × Int), ents i (F ++ [p]) = ents i F ++ [{ key := JE p.1, val := I p.2, born := i + F.length }] := by
  intro F
  induction F with
  | nil => intro i p; rfl
  | cons q F ih => intro i p; show _ :: ents (i + 1) (F ++ [p]) = _; rw [ih]; simp [ents]; omega
theorem ents_mod : ∀ (F : List (E × Int)) (i j : Nat) (p : E × Int) (f : MapEntry → MapEntry), (∀ b q, F[j]? = some q → f { key := JE q.1, val := I q.2, born := b } = { key := JE p.1, val := I p.2, born := b }) → (ents i F).modify j f = ents i (F.set j p) := by
  intro F
  induction F with
  | nil => intro i j p f h; cases j <;> rfl
  | cons q F ih =>
    intro i j p f h
    cases j with
    | zero => show f _ :: ents (i + 1) F = _; rw [h i q rfl]; rfl
    | succ j => show _ :: (ents (i + 1) F).modify j f = _; rw [ih (i + 1) j p f (fun b r hr => h b r (by simpa using hr))]; rfl
theorem ents_find : ∀ (F : List (E × Int)) (i j : Nat), j < F.length → (ents i F).findIdx? (fun e => (e.born : Int) == ((i + j : Nat) : Int)) = some j := by
  intro F
  induction F with
  | nil => intro i j h; simp at h
  | cons q F ih =>
    intro i j h
    show ((_ : MapEntry) :: ents (i + 1) F).findIdx? _ = _
    rw [List.findIdx?_cons]
    cases j with
    | zero => simp
    | succ j =>
      have e : (((i : Nat) : Int) == ((i + (j + 1) : Nat) : Int)) = false := by simp; omega
      simp only [e]
      have := ih (i + 1) j (by simpa using h)
      rw [show i + (j + 1) = i + 1 + j by omega, this]; rfl
theorem mgF_app0 (x y : E) : ∀ F, mgF y (F ++ [(x, 0)]) = mgF y F := by
  intro F
  induction F with
  | nil => simp [mgF]
  | cons p F ih => show (if p.1 = y then p.2 else mgF y (F ++ [(x, 0)])) = _; rw [ih]; rfl
/-- where a key stands -/
def IdxF (x : E) (F : List (E × Int)) (i : Nat) : Prop := (∃ v, F[i]? = some (x, v)) ∧ ∀ k p, k < i → F[k]? = some p → p.1 ≠ x
theorem mgF_set {x : E} {u : Int} (y : E) : ∀ {F : List (E × Int)} {i : Nat}, IdxF x F i → mgF y (F.set i (x, u)) = if y = x then u else mgF y F := by
  intro F
  induction F with
  | nil => rintro i ⟨⟨v, h⟩, _⟩; simp at h
  | cons p F ih =>
    rintro i ⟨⟨v, h⟩, hk⟩
    cases i with
    | zero =>
      simp at h; subst h
      show (if x = y then u else mgF y F) = _
      by_cases e : y = x
      · rw [if_pos e.symm, if_pos e]
      · rw [if_neg (fun h => e h.symm), if_neg e]; show _ = if x = y then v else mgF y F; rw [if_neg (fun h => e h.symm)]
    | succ i =>
      have hp : p.1 ≠ x := hk 0 p (by omega) rfl
      have := ih (i := i) ⟨⟨v, by simpa using h⟩, fun k q hkk hq => hk (k + 1) q (by omega) (by simpa using hq)⟩
      show (if p.1 = y then p.2 else mgF y (F.set i (x, u))) = _
      rw [this]
      by_cases e : p.1 = y
      · rw [if_pos e, if_neg (fun h => hp (e.trans h))]; show _ = if p.1 = y then p.2 else mgF y F; rw [if_pos e]
      · rw [if_neg e]; show _ = if y = x then u else (if p.1 = y then p.2 else mgF y F); rw [if_neg e]
section
variable {w : World} {r : Nat} {F : List (E × Int)}
theorem MF.keep {S : Nat → Prop} {w' : World} (h : MF w r F) (hk : Keep S w w') (hs : ¬ S r) : MF w' r F := by
  obtain ⟨es, hb, he⟩ := h
  exact ⟨es, by rw [hk.block r (Array.getElem?_eq_some_iff.1 hb).1 hs]; exact hb, he⟩
theorem MF.keep0 {w' : World} (h : MF w r F) (hk : Keep None w w') : MF w' r F := h.keep hk fun h => h
theorem MF.lt (h : MF w r F) : r < w.heap.size := by
  obtain ⟨es, hb, he⟩ := h
  exact (Array.getElem?_eq_some_iff.1 hb).1
theorem mkF_of {t : TypeId} {w : World} {K : Option Nat → World → Prop} (hk : ∀ r w', r = w.heap.size → MF w' r [] → Keep None w w' → K (some r) w') :
    ∃ x : Option Nat, ∃ w1 : World, (Instr.makeMap t none).run Try.prog w = .ok (.map x) w1 ∧ K x w1 :=
  ⟨some w.heap.size, w.alloc (.map #[] 0), by simp [Instr.makeMap], hk _ _ rfl ⟨#[], (MapKept.heap_alloc w _).1, rfl⟩ ((Keep.refl _ w).alloc _)⟩
theorem lkF_of {x : E} {K : Int → World → Prop} (h : MF w r F) (hk : K (mgF x F) w) :
    ∃ v : Int, ∃ w' : World, (Instr.lookup 36 (.map (some r)) (JE x) false).run Try.prog w = .ok (.int .i64 v) w' ∧ K v w' := by
  obtain ⟨es, hb, he⟩ := h
  refine ⟨mgF x F, w, ?_, hk⟩
  have hzv : (zeroValue 3).run Try.prog w = .ok (.int .i64 0) w := by
    obtain ⟨i, hi, hzi⟩ := Option.map_eq_some_iff.1 (show (Try.prog.info? 3).map (·.zero) = some (some (.int .i64 0)) by kernel_rfl)
    simp [zeroValue, typeInfo, hi, hzi, Result.andThen]
  have hf := findK_run x w F
  rcases fnd_at x F 0 with ⟨h1, _, h3⟩ | ⟨j, v, h1, _, h3, _⟩
  · rw [h1] at hf
    simp [Instr.lookup, run_underlying Try.underlying36, MapKept.run_getObj_map hb, checkE, he, hf, hzv, h3, Result.andThen]
  · rw [h1] at hf
    simp [Instr.lookup, run_underlying Try.underlying36, MapKept.run_getObj_map hb, checkE, he, hf, h3, Result.andThen]
theorem setF {o : Obj} {es : Array MapEntry} {n : Nat} (hb : w.heap[r]? = some (.map es n)) : Keep (One r) w { w with heap := w.heap.setIfInBounds r o } := by
  have hr := (Array.getElem?_eq_some_iff.1 hb).1
  exact ⟨rfl, rfl, rfl, by simp, fun i hi hn => (MapKept.heap_set (o' := o) hb).2 i hn⟩
theorem meF_of {x : E} {K : Int → Int → World → Prop} (h : MF w r F) (hk : ∀ (i : Nat) (v : Int) (F1 : List (E × Int)) w', MF w' r F1 → IdxF x F1 i → (∀ y, mgF y F1 = mgF y F) → Keep (One r) w w' → w'.heap.size = w.heap.size → K v i w') :
    ∃ (a b : Int) (w' : World), (Instr.mapEntry 36 (.map (some r)) (JE x)).run Try.prog w = .ok (.tuple #[.int .i64 a, .int .i64 b]) w' ∧ K a b w' := by
  obtain ⟨es, hb, he⟩ := h
  have hf := findK_run x w F
  rcases fnd_at x F 0 with ⟨h1, h2, h3⟩ | ⟨j, v, h1, h2, h3, h4⟩
  · rw [h1] at hf
    have hzv : (zeroValue 3).run Try.prog w = .ok (.int .i64 0) w := by
      obtain ⟨i, hi, hzi⟩ := Option.map_eq_some_iff.1 (show (Try.prog.info? 3).map (·.zero) = some (some (.int .i64 0)) by kernel_rfl)
      simp [zeroValue, typeInfo, hi, hzi, Result.andThen]
    refine ⟨0, F.length, _, by simp [Instr.mapEntry, run_underlying Try.underlying36, MapKept.run_getObj_map hb, checkE, he, hf, hzv, MapKept.run_setObj_map _ hb, goInt, Result.andThen]; rfl, hk F.length 0 (F ++ [(x, 0)]) _ ⟨_, (MapKept.heap_set hb).1.trans (by rw [List.length_append]; rfl), ?_⟩ ⟨⟨0, by simp⟩, fun k p hkk hp => ?_⟩ (mgF_app0 x · F) (setF hb) (by simp)⟩
    · rw [Array.toList_push, he, ents_app, Nat.zero_add]
    · rw [List.getElem?_append_left hkk] at hp
      exact h2 p (List.mem_of_getElem? hp)
  · rw [h1] at hf
    rw [Nat.zero_add] at hf
    have hej : es[j]? = some { key := JE x, val := I v, born := j } := by
      rw [← Array.getElem?_toList, he, ents_at F 0 j (x, v) h2, Nat.zero_add]
    have hst : (Instr.keyThatStays (JE x) (JE x)).run Try.prog w = .ok (JE x) w := by
      unfold Instr.keyThatStays
      have : Instr.sameBits 10000 (JE x) (JE x) = true := by
        simp [JE, Instr.sameBits]
      rw [this]; rfl
    refine ⟨v, j, _, by simp [Instr.mapEntry, run_underlying Try.underlying36, MapKept.run_getObj_map hb, checkE, he, hf, hej, hst, MapKept.run_setObj_map _ hb, goInt, Result.andThen]; rfl, hk j v F _ ⟨_, (MapKept.heap_set hb).1, ?_⟩ ⟨⟨v, h2⟩, h4⟩ (fun _ => rfl) (setF hb) (by simp)⟩
    rw [Array.toList_modify, he, ents_mod F 0 j (x, v) _ (fun b q hq => by rw [h2] at hq; injection hq with hq; subst hq; rfl)]
    congr 1
    exact WideElems.set_self F j _ h2
theorem esF_of {x : E} {i : Nat} {u : Int} {K : World → Prop} (h : MF w r F) (hi : IdxF x F i) (hk : ∀ w', MF w' r (F.set i (x, u)) → Keep (One r) w w' → w'.heap.size = w.heap.size → K w') :
    ∃ w' : World, (Instr.entryStore 36 (.map (some r)) (.int .i64 i) (.int .i64 u)).run Try.prog w = .ok () w' ∧ K w' := by
  obtain ⟨es, hb, he⟩ := h
  obtain ⟨⟨v, hv⟩, _⟩ := hi
  have hlt := (List.getElem?_eq_some_iff.1 hv).1
  have hidx : es.findIdx? (fun e => (e.born : Int) == (i : Int)) = some i := by
    rw [WideElems.findIdx_arr, he]
    have := ents_find F 0 i hlt
    rwa [Nat.zero_add] at this
  refine ⟨_, by simp [Instr.entryStore, MapKept.run_getObj_map hb, asInt, asIntOf, hidx, MapKept.run_setObj_map _ hb, Result.andThen]; rfl, hk _ ⟨_, (MapKept.heap_set hb).1.trans (by rw [List.length_set]), ?_⟩ (setF hb) (by simp)⟩
  rw [Array.toList_modify, he]
  exact ents_mod F 0 i (x, u) _ (fun b q hq => by rw [hv] at hq; injection hq with hq; subst hq; rfl)
end
end Go.Proofs.Ytglhgmgegabinaa.Ex
