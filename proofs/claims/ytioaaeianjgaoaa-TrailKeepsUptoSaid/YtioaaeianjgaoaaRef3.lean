/- Imply, New, Lits, Marks and Back of the document's trail. -/
import Derived.Test.YtioaaeianjgaoaaRef2
set_option linter.unusedVariables false
set_option linter.unusedSimpArgs false
set_option maxRecDepth 100000
namespace Go.Proofs.Ytioaaeianjgaoaa.Trail
open Go Go.Proofs.Ytioaaeianjgaoaa.Vc Go.Proofs.Ytioaaeianjgaoaa.T

section
variable {w : World} {M : MI} {n : Nat} {R : List E} {now : Int}
def implA (n : Nat) (R : List E) (l r : Int) : Int := if freeA n R l = 0 then (if r < 0 then 2 else 0) else freeA n R l
theorem imply29 (h : MRep w M n R now) (l r : Int) (hl : -9223372036854775808 ≤ l ∧ l ≤ 9223372036854775807) (hR : R.length ≤ 1048576) (ha : ∀ e ∈ R, e.lit.natAbs ≤ 1048576) :
    Calls Try.prog 29 #[Pt M.m, I l, I r] w fun e w' => e = .returned (I (implA n R l r)) ∧ MLaid w M n (if implA n R l r = 0 then R ++ [⟨l, now, r⟩] else R) now w' := by
  let Q : World → Prop := MLaid w M n (if implA n R l r = 0 then R ++ [⟨l, now, r⟩] else R) now
  refine (V29_calls (some ⟨M.m, 0, none⟩) l r w (fun v w' => v = I (implA n R l r) ∧ Q w') ?_).mono fun e w' ⟨v, he, hv, hk⟩ => ⟨by rw [he, hv], hk⟩
  unfold V29
  refine cl_of ok41 (own41 h l hl.1) fun e w1 ⟨he, hw⟩ => ⟨_, he, ?_⟩
  subst hw
  have same : ∀ {k : Int} {wa : World}, implA n R l r = k → k ≠ 0 → wa = w1 → Q wa := fun e1 e2 e3 => by
    rw [e3]
    show MLaid w1 M n (if implA n R l r = 0 then R ++ [⟨l, now, r⟩] else R) now w1
    rw [e1, if_neg e2]
    exact ⟨Keep.refl _ _, M, MMoved.refl _ _, h⟩
  rcases Bool.eq_false_or_eq_true (ownB n l) with hb | hb
  · rw [hb]
    refine pif_f rfl (cl_of ok42 (at42 h l hl hR ha) fun e w2 ⟨he, hw⟩ => ⟨_, he, ?_⟩)
    subst hw
    rcases idx_cases R l.natAbs with ⟨e1, e2⟩ | ⟨i, x, e1, e2, e3, e4⟩
    · have ef : freeA n R l = 0 := by unfold freeA; rw [hb, if_pos rfl, e2]
      rw [e1]
      refine pif_f rfl (pif_of (fun h2 => ?_) fun h2 => ?_)
      · have h2 : r < 0 := by simpa using h2
        have ei : implA n R l r = 2 := by unfold implA; rw [ef, if_pos rfl, if_pos h2]
        exact ⟨by rw [ei], same ei (by decide) rfl⟩
      · have h2 : ¬ r < 0 := by simpa using h2
        have ei : implA n R l r = 0 := by unfold implA; rw [ef, if_pos rfl, if_neg h2]
        rw [ei]
        have eQ : Q = MLaid w2 M n (R ++ [⟨l, now, r⟩]) now := by
          show MLaid w2 M n (if implA n R l r = 0 then R ++ [⟨l, now, r⟩] else R) now = _
          rw [ei]; simp
        rw [eQ]
        refine nn_of ?_
        have hlt := h.lt
        have hMd := h.drew
        have kd : Keep M.F w2 w2.drew := (Keep.refl _ w2).drew
        have sd : w2.drew.heap.size = w2.heap.size := rfl
        generalize w2.drew = w4 at *
        simp only [add_mk, Nat.zero_add, Nat.add_zero]
        refine ldC_of (hMd.obj.cell 1) (nn_of ?_)
        simp only [add_mk, Nat.zero_add, Nat.add_zero]
        refine ldI_of (hMd.obj.cell 2) ?_
        refine alc_at fun b w5 hb5 h5 k5 => ?_
        have hM5 := hMd.keep0 k5
        have z5 := k5.size
        refine ⟨ldC_of (hM5.obj.cell 1) rfl, ?_⟩
        refine app_row (w0 := w2) (v := ⟨l, now, r⟩) hM5 (by omega) hlt h5 hR fun p' c' w6 k6 hfin hm mv hB6 => nn_of ?_
        simp only [add_mk, Nat.zero_add, Nat.add_zero]
        refine st_of hB6 (by simp) rfl fun w7 h7 k7 s7 => ⟨by first | rfl | trivial, ?_, _, mv, hfin w7 hm k7 h7⟩
        exact ((kd.then0 k5).trans k6 fun i _ h => h).thenS k7 (Or.inl rfl)
    · have ei : implA n R l r = 50 := by unfold implA freeA; rw [hb, if_pos rfl, e3]; simp
      rw [e1, ei]
      exact pif_t (by simp) ⟨rfl, same ei (by decide) rfl⟩
  · have ei : implA n R l r = 1 := by unfold implA freeA; rw [hb, if_neg (by simp)]; simp
    rw [hb, ei]
    exact pif_t rfl ⟨rfl, same ei (by decide) rfl⟩

def New27 (n : Int) (w : World) (v : Value) (w' : World) : Prop := Keep None w w' ∧
  ((¬ (0 ≤ n ∧ n ≤ 1048576) ∧ v = .tuple #[.pointer none, I 2]) ∨
   ((0 ≤ n ∧ n ≤ 1048576) ∧ ∃ M : MI, (∀ i, M.F i → w.heap.size ≤ i) ∧ v = .tuple #[Pt M.m, I 0] ∧ MRep w' M n.toNat [] 0))
theorem new27 (n : Int) (w : World) : Calls Try.prog 27 #[I n] w fun e w' => ∃ v, e = .returned v ∧ New27 n w v w' := by
  refine V27_calls n w (New27 n w) ?_
  unfold V27
  by_cases hn : 0 ≤ n ∧ n ≤ 1048576
  · have e1 : (cond (decide (n < 0)) true (decide (n > 1048576))) = false := by
      have h1 : ¬ n < 0 := by omega
      have h2 : ¬ n > 1048576 := by omega
      simp [h1]; omega
    refine pif_f e1 (alc_at fun b w1 hb hB k1 => ⟨k1, Or.inr ⟨hn, ⟨b, none, 0⟩, ?_, rfl, ?_⟩⟩)
    · rintro i (h | ⟨a, h, _⟩)
      · have h : i = b := h; omega
      · cases h
    · refine ⟨?_, Own.nil _ _ _, (fun ⟨a, h, _⟩ => by cases h), by omega⟩
      have : ((n.toNat : Nat) : Int) = n := by omega
      rw [this]; exact hB
  · have e1 : (cond (decide (n < 0)) true (decide (n > 1048576))) = true := by
      by_cases h1 : n < 0
      · simp [h1]
      · have : n > 1048576 := by omega
        simp [this]
    exact pif_t e1 ⟨Keep.refl _ _, Or.inl ⟨hn, rfl⟩⟩

theorem lits31 (h : MRep w M n R now) (hR : R.length ≤ 1048576) :
    Calls Try.prog 31 #[Pt M.m] w fun e w' => ∃ v, e = .returned v ∧ Fresh w w' v (lits R) ∧ Keep None w w' := by
  refine V31_calls (some ⟨M.m, 0, none⟩) w (fun v w' => Fresh w w' v (lits R) ∧ Keep None w w') ?_
  unfold V31
  refine lp_of (fun s w1 => ∃ i : Nat, s.2.1 = i ∧ i ≤ R.length ∧ s.1.2.1 = i ∧ Own w1 3 1 s.1.1 s.1.2.1 s.1.2.2 ((lits (R.take i)).map I) ∧ (∀ i, ob s.1.1 i → w.heap.size ≤ i) ∧ Keep None w w1)
    (fun s _ => (R.length - s.2.1).toNat) ⟨0, rfl, Nat.zero_le _, rfl, by simpa [lits] using Own.nil w 3 1, fun i ⟨a, h, _⟩ => (by cases h), Keep.refl _ _⟩ ?_
  rintro ⟨⟨p, nn', c⟩, i', ⟨⟩⟩ w1 ⟨i, rfl, hi, hnn, hO, hf, hk⟩
  simp only [] at hnn hO hf ⊢
  subst hnn
  have h1 := h.keep0 hk
  refine nn_of ?_
  simp only [add_mk, Nat.zero_add, Nat.add_zero]
  refine ldC_of (h1.obj.cell 1) (pif_of (fun hlt => ?_) fun hge => ?_)
  · have hlt : nn' < R.length := by simpa using hlt
    refine nn_of (ldC_of (h1.obj.cell 1) (h1.at (by omega) (by rw [Int.toNat_natCast]; exact List.getElem?_eq_getElem hlt) fun a c0 c1 c2 c3 => ldI_of c1 ?_))
    refine alc_at fun b w2 hb h2 k2 => ?_
    have z1 := hk.size
    have z2 := k2.size
    refine app_int (w0 := w) (x := R[nn'].lit) (hO.keep0 k2) h2 (by simp [lits]; omega) (by omega) hf (by omega) fun p' c' w3 hO3 hf3 k3 => ?_
    have ew : IntKind.wrap .i64 ((nn' : Int) + 1) = ((nn' + 1 : Nat) : Int) := by rw [IntKind.wrap_i64]; omega
    rw [ew]
    have et : lits (R.take nn') ++ [R[nn'].lit] = lits (R.take (nn' + 1)) := by
      unfold lits
      rw [List.take_add_one, List.getElem?_eq_getElem hlt, List.map_append]; rfl
    rw [et] at hO3
    exact ⟨⟨nn' + 1, rfl, hlt, rfl, hO3, hf3, Keep.app (hk.then0 k2) k3 hf⟩, by omega⟩
  · have hge : nn' = R.length := by simp at hge; omega
    subst hge
    rw [List.take_length] at hO
    have : (lits R).length = R.length := by simp [lits]
    exact ⟨⟨p, c, by rw [this], by rw [this]; exact hO, hf⟩, hk⟩
/-- the places of the entries without a reason -/
def marks (R : List E) : List Int := (List.range R.length).filterMap fun i => match R[i]? with | some e => if e.rs < 0 then some (i : Int) else none | none => none
theorem filterMap_same {α β : Type} {f g : α → Option β} : ∀ (l : List α), (∀ x ∈ l, f x = g x) → l.filterMap f = l.filterMap g := by
  intro l
  induction l with
  | nil => intro _; rfl
  | cons x l ih => intro h; rw [List.filterMap_cons, List.filterMap_cons, h x (by simp), ih fun y hy => h y (by simp [hy])]
theorem marks_snoc (R : List E) (x : E) : marks (R ++ [x]) = marks R ++ (if x.rs < 0 then [(R.length : Int)] else []) := by
  unfold marks
  rw [List.length_append, List.length_singleton, List.range_succ, List.filterMap_append]
  congr 1
  · apply filterMap_same
    intro i hi
    simp at hi
    rw [List.getElem?_append_left hi]
  · simp only [List.filterMap_cons, List.filterMap_nil, List.getElem?_append_right (Nat.le_refl _), Nat.sub_self, List.getElem?_cons_zero]
    by_cases h : x.rs < 0 <;> simp [h]
theorem St.marks {n : Nat} {R : List E} {L : List Int} (h : St n R L) : marks R = L := by
  induction h with
  | nil => rfl
  | imply _ _ _ hr ih => rw [marks_snoc, ih, if_neg (by simp only []; omega), List.append_nil]
  | decide _ _ _ ih => rw [marks_snoc, ih, if_pos (by simp)]
theorem marks_len (R : List E) : (marks R).length ≤ R.length := by
  unfold marks
  have := List.length_filterMap_le (fun i => match R[i]? with | some e => if e.rs < 0 then some ((i : Nat) : Int) else none | none => none) (List.range R.length)
  simpa using this
theorem marks32 (h : MRep w M n R now) (hR : R.length ≤ 1048576) :
    Calls Try.prog 32 #[Pt M.m] w fun e w' => ∃ v, e = .returned v ∧ Fresh w w' v (marks R) ∧ Keep None w w' := by
  refine V32_calls (some ⟨M.m, 0, none⟩) w (fun v w' => Fresh w w' v (marks R) ∧ Keep None w w') ?_
  unfold V32
  refine lp_of (fun s w1 => ∃ i : Nat, s.2.1 = i ∧ i ≤ R.length ∧ s.1.2.1 = (marks (R.take i)).length ∧ Own w1 3 1 s.1.1 s.1.2.1 s.1.2.2 ((marks (R.take i)).map I) ∧ (∀ i, ob s.1.1 i → w.heap.size ≤ i) ∧ Keep None w w1)
    (fun s _ => (R.length - s.2.1).toNat) ⟨0, rfl, Nat.zero_le _, rfl, by simpa [marks] using Own.nil w 3 1, fun i ⟨a, h, _⟩ => (by cases h), Keep.refl _ _⟩ ?_
  rintro ⟨⟨p, nn', c⟩, i', ⟨⟩⟩ w1 ⟨i, rfl, hi, hnn, hO, hf, hk⟩
  simp only [] at hnn hO hf ⊢
  subst hnn
  have h1 := h.keep0 hk
  refine nn_of ?_
  simp only [add_mk, Nat.zero_add, Nat.add_zero]
  refine ldC_of (h1.obj.cell 1) (pif_of (fun hlt => ?_) fun hge => ?_)
  · have hlt : i < R.length := by simpa using hlt
    have ew : IntKind.wrap .i64 ((i : Int) + 1) = ((i + 1 : Nat) : Int) := by rw [IntKind.wrap_i64]; omega
    rw [ew]
    have et : R.take (i + 1) = R.take i ++ [R[i]] := by rw [List.take_add_one, List.getElem?_eq_getElem hlt]; rfl
    have em : marks (R.take (i + 1)) = marks (R.take i) ++ (if R[i].rs < 0 then [(i : Int)] else []) := by
      rw [et, marks_snoc]
      have : (R.take i).length = i := by simp; omega
      rw [this]
    have hml := marks_len (R.take i)
    have htl : (R.take i).length = i := by simp; omega
    refine jn_of ?_
    refine nn_of (ldC_of (h1.obj.cell 1) (h1.at (by omega) (by rw [Int.toNat_natCast]; exact List.getElem?_eq_getElem hlt) fun a c0 c1 c2 c3 => ldI_of c3 (pif_of (fun hr => ?_) fun hr => ?_)))
    · have hr : R[i].rs < 0 := by simpa using hr
      refine alc_at fun b w2 hb h2 k2 => ?_
      have z1 := hk.size
      have z2 := k2.size
      refine app_int (w0 := w) (x := (i : Int)) (hO.keep0 k2) h2 rfl (by omega) hf (by omega) fun p' c' w3 hO3 hf3 k3 => ?_
      rw [if_pos hr] at em
      rw [← em] at hO3
      refine ⟨⟨i + 1, rfl, hlt, by rw [em, List.length_append]; rfl, hO3, hf3, Keep.app (hk.then0 k2) k3 hf⟩, by omega⟩
    · have hr : ¬ R[i].rs < 0 := by simpa using hr
      rw [if_neg hr, List.append_nil] at em
      exact ⟨⟨i + 1, rfl, hlt, by rw [em], by rw [em]; exact hO, hf, hk⟩, by omega⟩
  · have hge : i = R.length := by simp at hge; omega
    subst hge
    rw [List.take_length] at hO ⊢
    exact ⟨⟨p, c, rfl, hO, hf⟩, hk⟩
end
end Go.Proofs.Ytioaaeianjgaoaa.Trail
