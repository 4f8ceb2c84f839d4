/- Back and Look of the document's trail. -/
import Derived.Test.YtioaaeianjgaoaaRef3
set_option linter.unusedVariables false
set_option linter.unusedSimpArgs false
set_option maxRecDepth 100000
namespace Go.Proofs.Ytioaaeianjgaoaa.Trail
open Go Go.Proofs.Ytioaaeianjgaoaa.Vc Go.Proofs.Ytioaaeianjgaoaa.T

theorem app_three {w w0 : World} {p : Option Addr} {n c b : Nat} {xs : List E} {x : E} {K : Option Addr → Nat → Nat → World → Prop}
    (hO : Own w 90 3 p n c (xs.flatMap three)) (hB : Blk w b (three x) 90) (hs : n < 1099511627776) (hf : ∀ i, ob p i → w0.heap.size ≤ i) (hw : w0.heap.size ≤ w.heap.size)
    (hk : ∀ p' c' w', Own w' 90 3 p' (n + 1) c' ((xs ++ [x]).flatMap three) → (∀ i, ob p' i → w0.heap.size ≤ i) → Keep (ob p) w w' → K p' (n + 1) c' w') :
    ∃ (p' : Option Addr) (n' c' : Nat), ∃ w' : World, (Builtin.append_ #[85, 85] 85 #[.slice p n c, .slice (some ⟨b, 0, none⟩) 1 1]).run Try.prog w = .ok (.slice p' n' c') w' ∧ K p' n' c' w' := by
  refine app_of (e := 90) (sz := 3) (z := .agg #[I 0, I 0, I 0]) (B := 24) (news := three x) Try.underlying85 (by kernel_rfl) rfl (by omega) hO ?_ (fun u hu => ?_) (by simp only [maxLen]; omega) (by omega) fun p' c' w' hO' k hf' => ?_
  · refine Or.inr ⟨_, rfl, rfl, fun j u hu => ?_⟩
    rw [add_mk, Nat.zero_add, hB.cell]; exact hu
  · simp only [three, List.mem_cons, List.not_mem_nil, or_false] at hu
    rcases hu with rfl | rfl | rfl <;> rfl
  · refine hk p' c' w' ?_ (fun i hi => ?_) k
    · rw [List.flatMap_append]
      simpa using hO'
    · rcases hf' i hi with h | h
      · exact hf i h
      · omega
def above (k : Int) (R : List E) : List E := R.filter fun e => decide (k < e.lv)
def upto (k : Int) (R : List E) : List E := R.filter fun e => decide (e.lv ≤ k)

section
variable {w : World} {M : MI} {n : Nat} {R : List E} {now : Int}
def MGave (w : World) (M : MI) (n : Nat) (R : List E) (now : Int) (out : List Int) (v : Value) (w' : World) : Prop :=
  ∃ p c, v = .tuple #[.slice p out.length c, I 0] ∧ Own w' 3 1 p out.length c (out.map I) ∧ (∀ i, ob p i → w.heap.size ≤ i) ∧ Keep M.F w w' ∧ ∃ M', MMoved w M M' ∧ MRep w' M' n R now ∧ ∀ i, ob p i → ¬ M'.F i
theorem mback_out (h : MRep w M n R now) {k : Int} (hk : k < 0 ∨ now < k) :
    Calls Try.prog 30 #[Pt M.m, I k] w fun e w' => e = .returned (.tuple #[.slice none 0 0, I 2]) ∧ w' = w := by
  refine (V30_calls (some ⟨M.m, 0, none⟩) k w (fun v w' => v = .tuple #[.slice none 0 0, I 2] ∧ w' = w) ?_).mono fun e w' ⟨v, he, hv, hk⟩ => ⟨by rw [he, hv], hk⟩
  unfold V30
  by_cases hh : k < 0
  · have e1 : decide (k < 0) = true := by simpa using hh
    rw [e1]
    exact gd_f rfl (gd_f rfl (pif_t rfl ⟨rfl, rfl⟩))
  · have e1 : decide (k < 0) = false := by simpa using hh
    rw [e1]
    refine gd_t rfl (nn_of (gd_t rfl ?_))
    rw [add_mk]
    refine ldI_of (h.obj.cell 2) (pif_t ?_ ⟨rfl, rfl⟩)
    simp; omega
theorem back30 (h : MRep w M n R now) {k : Int} (hk0 : 0 ≤ k) (hk : k ≤ now) (hR : R.length ≤ 1048576) :
    Calls Try.prog 30 #[Pt M.m, I k] w fun e w' => ∃ v, e = .returned v ∧ MGave w M n (upto k R) k (lits (above k R)).reverse v w' := by
  refine V30_calls (some ⟨M.m, 0, none⟩) k w (MGave w M n (upto k R) k (lits (above k R)).reverse) ?_
  unfold V30
  have e1 : decide (k < 0) = false := by simpa using hk0
  rw [e1]
  refine gd_t rfl (nn_of (gd_t rfl ?_))
  simp only [add_mk, Nat.zero_add, Nat.add_zero]
  refine ldI_of (h.obj.cell 2) (pif_f (by simpa using hk) (nn_of (ldC_of (h.obj.cell 1) ?_)))
  have e2 : IntKind.wrap .i64 ((R.length : Int) - 1) = (R.length : Int) - 1 := by rw [IntKind.wrap_i64]; omega
  rw [e2]
  have hlt := h.lt
  refine lp_of (fun s w1 => ∃ j : Nat, s.2.1 = (j : Int) - 1 ∧ j ≤ R.length ∧ s.1.2.1 = (above k (R.drop j)).length ∧ Own w1 3 1 s.1.1 s.1.2.1 s.1.2.2 ((lits (above k (R.drop j))).reverse.map I) ∧ (∀ i, ob s.1.1 i → w.heap.size ≤ i) ∧ Keep None w w1)
    (fun s _ => (s.2.1 + 1).toNat) ⟨R.length, rfl, Nat.le_refl _, by simp [above], by simpa [lits, above] using Own.nil w 3 1, fun i ⟨a, h, _⟩ => (by cases h), Keep.refl _ _⟩ ?_
  rintro ⟨⟨p, nn', c⟩, k', ⟨⟩⟩ w1 ⟨j, rfl, hj, hnn, hO, hf, hk1⟩
  simp only [] at hnn hO hf ⊢
  subst hnn
  have h1 := h.keep0 hk1
  have z1 := hk1.size
  have hal : (above k (R.drop j)).length ≤ R.length := by
    have := List.length_filter_le (fun e => decide (k < e.lv)) (R.drop j)
    have e3 : (R.drop j).length ≤ R.length := by simp
    unfold above; omega
  refine pif_of (fun hge => ?_) fun hlt' => ?_
  · have hge : 1 ≤ j := by simp at hge; omega
    obtain ⟨i, rfl⟩ : ∃ i, j = i + 1 := ⟨j - 1, by omega⟩
    have e3 : (((i + 1 : Nat) : Int) - 1) = (i : Int) := by omega
    rw [e3]
    have e4 : IntKind.wrap .i64 ((i : Int) - 1) = (i : Int) - 1 := by rw [IntKind.wrap_i64]; omega
    rw [e4]
    have hi : i < R.length := by omega
    have hx : R[((i : Nat) : Int).toNat]? = some R[i] := by rw [Int.toNat_natCast, List.getElem?_eq_getElem hi]
    have ed : R.drop i = R[i] :: R.drop (i + 1) := List.drop_eq_getElem_cons hi
    refine jn_of ?_
    refine nn_of ?_
    refine ldC_of (h1.obj.cell 1) (h1.at (by omega) hx fun a c0 c1 c2 c3 => ldI_of c2 (pif_of (fun hq => ?_) fun hq => ?_))
    · have hq : k < R[i].lv := by simpa using hq
      refine nn_of (ldC_of (h1.obj.cell 1) (h1.at (by omega) hx fun a c0 c1 c2 c3 => ldI_of c1 ?_))
      refine alc_at fun b w2 hb h2 k2 => ?_
      have z2 := k2.size
      have ea : above k (R.drop i) = R[i] :: above k (R.drop (i + 1)) := by
        unfold above; rw [ed, List.filter_cons_of_pos (by simpa using hq)]
      refine app_int (w0 := w) (x := R[i].lit) (hO.keep0 k2) h2 (by simp [lits]) (by omega) hf (by omega) fun p' c' w3 hO3 hf3 k3 => ?_
      have et : (lits (above k (R.drop (i + 1)))).reverse ++ [R[i].lit] = (lits (above k (R.drop i))).reverse := by
        rw [ea]; unfold lits; rw [List.map_cons, List.reverse_cons]
      rw [et] at hO3
      exact ⟨⟨i, rfl, by omega, by rw [ea]; rfl, hO3, hf3, Keep.app (hk1.then0 k2) k3 hf⟩, by omega⟩
    · have hq : ¬ k < R[i].lv := by simpa using hq
      have ea : above k (R.drop i) = above k (R.drop (i + 1)) := by
        unfold above; rw [ed, List.filter_cons_of_neg (by simpa using hq)]
      exact ⟨⟨i, rfl, by omega, by rw [ea], by rw [ea]; exact hO, hf, hk1⟩, by omega⟩
  · have hj0 : j = 0 := by simp at hlt'; omega
    subst hj0
    rw [List.drop_zero] at hO hal ⊢
    -- the rest of the row
    refine lp_of (fun s w2 => ∃ j : Nat, s.2.1 = (j : Int) ∧ j ≤ R.length ∧ s.1.2.1 = (upto k (R.take j)).length ∧ Own w2 90 3 s.1.1 s.1.2.1 s.1.2.2 ((upto k (R.take j)).flatMap three) ∧ (∀ i, ob s.1.1 i → w1.heap.size ≤ i) ∧ Keep None w1 w2)
      (fun s _ => (R.length - s.2.1).toNat) ⟨0, rfl, Nat.zero_le _, by simp [upto], by simpa [upto] using Own.nil w1 90 3, fun i ⟨a, h, _⟩ => (by cases h), Keep.refl _ _⟩ ?_
    rintro ⟨⟨q, nq, cq⟩, k', ⟨⟩⟩ w2 ⟨j, rfl, hj, hnn, hQ, hfq, hk2⟩
    simp only [] at hnn hQ hfq ⊢
    subst hnn
    have h2 := h1.keep0 hk2
    have z2 := hk2.size
    have hul : (upto k (R.take j)).length ≤ R.length := by
      have := List.length_filter_le (fun e => decide (e.lv ≤ k)) (R.take j)
      have e3 : (R.take j).length ≤ R.length := by simp; omega
      unfold upto; omega
    refine nn_of ?_
    refine ldC_of (h2.obj.cell 1) (pif_of (fun hlt2 => ?_) fun hge => ?_)
    · have hi : j < R.length := by simpa using hlt2
      have e4 : IntKind.wrap .i64 ((j : Int) + 1) = ((j + 1 : Nat) : Int) := by rw [IntKind.wrap_i64]; omega
      rw [e4]
      have hx : R[((j : Nat) : Int).toNat]? = some R[j] := by rw [Int.toNat_natCast, List.getElem?_eq_getElem hi]
      have ed : R.take (j + 1) = R.take j ++ [R[j]] := by rw [List.take_add_one, List.getElem?_eq_getElem hi]; rfl
      refine jn_of ?_
      refine nn_of ?_
      refine ldC_of (h2.obj.cell 1) (h2.at (by omega) hx fun a c0 c1 c2 c3 => ldI_of c2 (pif_of (fun hq => ?_) fun hq => ?_))
      · have hq : R[j].lv ≤ k := by simpa using hq
        refine nn_of (ldC_of (h2.obj.cell 1) (h2.at (by omega) hx fun a c0 c1 c2 c3 => ldI_of c1 (ldI_of c2 (ldI_of c3 ?_))))
        refine alc_at fun b w3 hb h3 k3 => ?_
        have z3 := k3.size
        have ea : upto k (R.take (j + 1)) = upto k (R.take j) ++ [R[j]] := by
          unfold upto; rw [ed, List.filter_append, List.filter_cons_of_pos (by simpa using hq)]; rfl
        refine app_three (w0 := w1) (x := R[j]) (hQ.keep0 k3) h3 (by omega) hfq (by omega) fun p' c' w4 hO4 hf4 k4 => ?_
        rw [← ea] at hO4
        exact ⟨⟨j + 1, rfl, hi, by rw [ea, List.length_append]; rfl, hO4, hf4, Keep.app (hk2.then0 k3) k4 hfq⟩, by omega⟩
      · have hq : ¬ R[j].lv ≤ k := by simpa using hq
        have ea : upto k (R.take (j + 1)) = upto k (R.take j) := by
          unfold upto; rw [ed, List.filter_append, List.filter_cons_of_neg (by simpa using hq)]; simp
        exact ⟨⟨j + 1, rfl, hi, by rw [ea], by rw [ea]; exact hQ, hfq, hk2⟩, by omega⟩
    · have hge : j = R.length := by simp at hge; omega
      subst hge
      rw [List.take_length] at hQ ⊢
      refine nn_of ?_
      refine st_of h2.obj (by simp) rfl fun w3 h3 k3 s3 => nn_of ?_
      refine st_of h3 (by simp) rfl fun w4 h4 k4 s4 => ?_
      have kk : Keep (One M.m) w2 w4 := k3.trans k4 fun _ _ h => h
      have hm : M.m < w.heap.size := hlt _ (Or.inl rfl)
      have hOl := hO.lt
      refine ⟨p, c, ?_, ?_, hf, ?_, ⟨M.m, q, cq⟩, ⟨rfl, ?_⟩, ⟨h4, ?_, ?_, h.small⟩, ?_⟩
      · have : (lits (above k R)).reverse.length = (above k R).length := by simp [lits]
        rw [this]
      · have : (lits (above k R)).reverse.length = (above k R).length := by simp [lits]
        rw [this]
        exact (hO.keep0 hk2).keep kk fun i hi e => by have := hf i hi; have e : i = M.m := e; omega
      · exact (hk1.then0 hk2).none.thenS kk (Or.inl rfl)
      · rintro i (e | e)
        · exact Or.inl (Or.inl e)
        · have := hfq i e; exact Or.inr (by omega)
      · exact hQ.keep kk fun i hi e => by have := hfq i hi; have e : i = M.m := e; omega
      · intro e; have e : ob q M.m := e; have := hfq _ e; omega
      · rintro i hi (e | e)
        · have := hf i hi; have e : i = M.m := e; omega
        · have := hfq i e; have := hOl i hi; omega
end
end Go.Proofs.Ytioaaeianjgaoaa.Trail
