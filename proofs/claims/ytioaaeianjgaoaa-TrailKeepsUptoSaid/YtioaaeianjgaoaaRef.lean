/- The document's trail in memory, and what its methods answer. -/
import Derived.Test.YtioaaeianjgaoaaAbs
set_option linter.unusedVariables false
set_option linter.unusedSimpArgs false
set_option maxRecDepth 100000
namespace Go.Proofs.Ytioaaeianjgaoaa.Trail
open Go Go.Proofs.Ytioaaeianjgaoaa.Vc Go.Proofs.Ytioaaeianjgaoaa.T

def three (e : E) : List Value := [I e.lit, I e.lv, I e.rs]
theorem flat3_len (l : List E) : (l.flatMap three).length = l.length * 3 := by
  induction l with
  | nil => rfl
  | cons x l ih => simp [List.flatMap_cons, three, ih] at *; omega
theorem flat3_at (l : List E) : ∀ (i : Nat) (e : E), l[i]? = some e → (l.flatMap three)[i * 3]? = some (I e.lit) ∧ (l.flatMap three)[i * 3 + 1]? = some (I e.lv) ∧ (l.flatMap three)[i * 3 + 2]? = some (I e.rs) := by
  induction l with
  | nil => intro i e h; simp at h
  | cons x l ih =>
    intro i e h
    cases i with
    | zero =>
      simp only [List.getElem?_cons_zero, Option.some.injEq] at h
      subst h
      simp [List.flatMap_cons, three]
    | succ i =>
      have := ih i e (by simpa using h)
      have e1 : (i + 1) * 3 = i * 3 + 1 + 1 + 1 := by omega
      rw [List.flatMap_cons, e1]
      simpa [three] using this

/-- where the document's trail lies -/
structure MI where
  m : Nat
  rp : Option Addr
  rc : Nat
def MI.F (M : MI) (i : Nat) : Prop := i = M.m ∨ ob M.rp i
structure MRep (w : World) (M : MI) (n : Nat) (R : List E) (now : Int) : Prop where
  obj : Blk w M.m [I n, .slice M.rp R.length M.rc, I now] 87
  row : Own w 90 3 M.rp R.length M.rc (R.flatMap three)
  ne : ¬ ob M.rp M.m
  small : n ≤ 1048576
theorem MRep.keep {w w' : World} {M : MI} {n : Nat} {R : List E} {now : Int} {K : Nat → Prop} (h : MRep w M n R now) (hk : Keep K w w') (hn : ∀ i, M.F i → ¬ K i) : MRep w' M n R now :=
  ⟨h.obj.keep hk (hn _ (Or.inl rfl)), h.row.keep hk fun i hi => hn _ (Or.inr hi), h.ne, h.small⟩
theorem MRep.keep0 {w w' : World} {M : MI} {n : Nat} {R : List E} {now : Int} (h : MRep w M n R now) (hk : Keep None w w') : MRep w' M n R now := h.keep hk fun _ _ h => h
theorem MRep.drew {w : World} {M : MI} {n : Nat} {R : List E} {now : Int} (h : MRep w M n R now) : MRep w.drew M n R now := ⟨h.obj, h.row, h.ne, h.small⟩
theorem MRep.lt {w : World} {M : MI} {n : Nat} {R : List E} {now : Int} (h : MRep w M n R now) : ∀ i, M.F i → i < w.heap.size := by
  intro i hi
  rcases hi with rfl | hi
  · exact h.obj.lt
  · exact h.row.lt i hi
def idx (R : List E) (v : Nat) : Int := match R.findIdx? (fun e => e.lit.natAbs == v) with | some i => (i : Int) | none => -1

section
variable {w : World} {M : MI} {n : Nat} {R : List E} {now : Int}
theorem MRep.at (h : MRep w M n R now) {i : Int} {e : E} {K : Addr → Prop} (h0 : 0 ≤ i) (he : R[i.toNat]? = some e)
    (hk : ∀ a : Addr, w.cell? a = some (I e.lit) → w.cell? (a.add 0) = some (I e.lit) → w.cell? (a.add 1) = some (I e.lv) → w.cell? (a.add 2) = some (I e.rs) → K a) : ixA M.rp R.length i 3 K := by
  have hlt := (List.getElem?_eq_some_iff.1 he).1
  refine h.row.ix h0 (by omega) fun b hb => ?_
  have hc := h.row
  rw [hb] at hc
  have hf := flat3_at R i.toNat e he
  refine hk _ ?_ ?_ ?_ ?_
  · rw [hc.cell _ (by omega)]; exact hf.1
  · rw [add_mk, Nat.add_zero, hc.cell _ (by omega)]; exact hf.1
  · rw [add_mk, hc.cell _ (by omega)]; exact hf.2.1
  · rw [add_mk, hc.cell _ (by omega)]; exact hf.2.2
theorem own41 (h : MRep w M n R now) (l : Int) (hl : -9223372036854775808 ≤ l) :
    Calls Try.prog 41 #[Pt M.m, I l] w fun e w' => e = .returned (.bool (ownB n l)) ∧ w' = w := by
  refine (V41_calls (some ⟨M.m, 0, none⟩) l w (fun v w' => v = .bool (ownB n l) ∧ w' = w) ?_).mono fun e w' ⟨v, he, hv, hk⟩ => ⟨by rw [he, hv], hk⟩
  unfold V41
  have hs := h.small
  have h53 : Calls Try.prog 53 #[I l] w fun e w' => e = .returned (.bool (decide (1 ≤ l.natAbs) && decide (l.natAbs ≤ 1048576))) ∧ w' = w := by
    refine (V53_calls l w (fun v w' => v = .bool (decide (1 ≤ l.natAbs) && decide (l.natAbs ≤ 1048576)) ∧ w' = w) ?_).mono fun e w' ⟨v, he, hv, hk⟩ => ⟨by rw [he, hv], hk⟩
    unfold V53
    refine ⟨?_, rfl⟩
    congr 1
    rw [Bool.eq_iff_iff]
    by_cases h1 : l ≥ 1 <;> by_cases h2 : l ≤ 1048576 <;> by_cases h3 : l ≥ -1048576 <;> by_cases h4 : l ≤ -1 <;> simp [h1, h2, h3, h4] <;> omega
  refine cl_of ok53 h53 fun e w1 ⟨he, hw⟩ => ⟨_, he, ?_⟩
  subst hw
  rcases Bool.eq_false_or_eq_true (decide (1 ≤ l.natAbs) && decide (l.natAbs ≤ 1048576)) with hb | hb
  · rw [hb]
    have hb' : 1 ≤ l.natAbs ∧ l.natAbs ≤ 1048576 := by simpa using hb
    refine gd_t rfl (nn_of (gd_t rfl ?_))
    simp only [add_mk, Nat.zero_add, Nat.add_zero]
    refine ldI_of (h.obj.cell 0) ?_
    have ew : IntKind.wrap .i64 (0 - l) = -l := by rw [IntKind.wrap_i64]; omega
    rw [ew]
    by_cases hc : l ≤ (n : Int)
    · have hc' : (cond true (decide (l ≤ (n : Int))) false) = true := by simpa using hc
      rw [hc']
      refine gd_t rfl (nn_of (gd_t rfl (ldI_of (h.obj.cell 0) ⟨?_, by first | rfl | trivial⟩)))
      congr 1
      unfold ownB
      rw [Bool.eq_iff_iff]
      simp
      omega
    · have hc' : (cond true (decide (l ≤ (n : Int))) false) = false := by simpa using hc
      rw [hc']
      refine gd_f rfl (gd_f rfl ⟨?_, by first | rfl | trivial⟩)
      congr 1
      unfold ownB
      rw [Bool.eq_iff_iff]
      simp
      omega
  · rw [hb]
    refine gd_f rfl (gd_f rfl (gd_f rfl (gd_f rfl ⟨?_, by first | rfl | trivial⟩)))
    have : ownB n l = false := by
      rw [Bool.and_eq_false_iff, decide_eq_false_iff_not, decide_eq_false_iff_not] at hb
      unfold ownB
      rw [Bool.and_eq_false_iff, decide_eq_false_iff_not, decide_eq_false_iff_not]
      omega
    rw [this]; rfl
theorem at42 (h : MRep w M n R now) (v : Int) (hv : -9223372036854775808 ≤ v ∧ v ≤ 9223372036854775807) (hR : R.length ≤ 1048576) (hl : ∀ e ∈ R, e.lit.natAbs ≤ 1048576) :
    Calls Try.prog 42 #[Pt M.m, I v] w fun e w' => e = .returned (I (idx R v.natAbs)) ∧ w' = w := by
  refine (V42_calls (some ⟨M.m, 0, none⟩) v w (fun x w' => x = I (idx R v.natAbs) ∧ w' = w) ?_).mono fun e w' ⟨v, he, hv, hk⟩ => ⟨by rw [he, hv], hk⟩
  unfold V42
  refine lp_of (fun s w1 => ∃ i : Nat, s.1 = i ∧ i ≤ R.length ∧ (∀ j e, j < i → R[j]? = some e → e.lit.natAbs ≠ v.natAbs) ∧ w1 = w) (fun s _ => (R.length - s.1).toNat) ⟨0, rfl, Nat.zero_le _, fun j e hj => by omega, rfl⟩ ?_
  rintro ⟨i', ⟨⟩⟩ w1 ⟨i, rfl, hi, hno, rfl⟩
  simp only []
  refine nn_of ?_
  simp only [add_mk, Nat.zero_add, Nat.add_zero]
  refine ldC_of (h.obj.cell 1) (pif_of (fun hlt => ?_) fun hge => ?_)
  · have hlt : i < R.length := by simpa using hlt
    have he : R[((i : Nat) : Int).toNat]? = some R[i] := by rw [Int.toNat_natCast, List.getElem?_eq_getElem hlt]
    have hml := hl R[i] (List.getElem_mem hlt)
    refine nn_of (ldC_of (h.obj.cell 1) (h.at (by omega) he fun a c0 c1 c2 c3 => ldI_of c1 ?_))
    have ew : IntKind.wrap .i64 ((i : Int) + 1) = ((i + 1 : Nat) : Int) := by rw [IntKind.wrap_i64]; omega
    rw [ew]
    have fin : ∀ b : Bool, (b = true ↔ R[i].lit.natAbs = v.natAbs) → pif b ((I (i : Int)) = I (idx R v.natAbs) ∧ w1 = w1) ((∃ j : Nat, ((i + 1 : Nat) : Int) = j ∧ j ≤ R.length ∧ (∀ q e, q < j → R[q]? = some e → e.lit.natAbs ≠ v.natAbs) ∧ w1 = w1) ∧ (R.length - ((i + 1 : Nat) : Int)).toNat < (R.length - (i : Int)).toNat) := by
      intro b hb
      refine pif_of (fun ht => ⟨?_, rfl⟩) fun hf => ?_
      · have hm := hb.1 ht
        unfold idx
        have : R.findIdx? (fun e => e.lit.natAbs == v.natAbs) = some i := by
          rw [List.findIdx?_eq_some_iff_getElem]
          refine ⟨hlt, by simpa using hm, fun j hj => ?_⟩
          have := hno j R[j] hj (List.getElem?_eq_getElem (by omega))
          simpa using this
        rw [this]
      · have hm : ¬ R[i].lit.natAbs = v.natAbs := fun e => by rw [hb.2 e] at hf; cases hf
        refine ⟨⟨i + 1, rfl, hlt, fun q e hq hqe => ?_, rfl⟩, by omega⟩
        by_cases hqi : q = i
        · subst hqi
          rw [List.getElem?_eq_getElem hlt] at hqe
          injection hqe with hqe
          rw [← hqe]; exact hm
        · exact hno q e (by omega) hqe
    by_cases hq : R[i].lit = v
    · have hq' : (R[i].lit == v) = true := by simpa using hq
      rw [hq']
      refine gd_f rfl (gd_f rfl (gd_f rfl (gd_f rfl ?_)))
      have := fin true ⟨fun _ => by rw [hq], fun _ => rfl⟩
      simpa using this
    · have hq' : (R[i].lit == v) = false := by simpa using hq
      rw [hq']
      refine gd_t rfl (nn_of (gd_t rfl ?_))
      simp only [add_mk, Nat.zero_add, Nat.add_zero]
      refine ldC_of (h.obj.cell 1) (gd_t rfl (h.at (by omega) he fun a c0 c1 c2 c3 => gd_t rfl (ldI_of c1 ?_)))
      have := fin (R[i].lit == IntKind.wrap .i64 (0 - v)) ⟨fun hh => by
          have hh : R[i].lit = IntKind.wrap .i64 (0 - v) := by simpa using hh
          rw [IntKind.wrap_i64] at hh
          omega, fun hh => by
          have : R[i].lit = IntKind.wrap .i64 (0 - v) := by rw [IntKind.wrap_i64]; omega
          simpa using this⟩
      simpa using this
  · have hge : i = R.length := by simp at hge; omega
    subst hge
    refine ⟨?_, by first | rfl | trivial⟩
    unfold idx
    have : R.findIdx? (fun e => e.lit.natAbs == v.natAbs) = none := by
      rw [List.findIdx?_eq_none_iff]
      intro e he
      obtain ⟨j, hj⟩ := List.mem_iff_getElem?.1 he
      have := hno j e (List.getElem?_eq_some_iff.1 hj).1 hj
      simpa using this
    rw [this]
end
end Go.Proofs.Ytioaaeianjgaoaa.Trail
