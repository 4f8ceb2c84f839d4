/- A call of both trails: the same answer, and both go on alike. -/
import Derived.Test.YtioaaeianjgaoaaTr
set_option linter.unusedVariables false
set_option linter.unusedSimpArgs false
set_option maxRecDepth 100000
namespace Go.Proofs.Ytioaaeianjgaoaa.Trail
open Go Go.Proofs.Ytioaaeianjgaoaa.Vc Go.Proofs.Ytioaaeianjgaoaa.T

theorem same19 {w : World} {p q : Option Addr} {n m c d : Nat} {xs ys : List Int} (hx : SlL w p n xs) (hy : SlL w q m ys) :
    Calls Try.prog 19 #[.slice p n c, .slice q m d] w fun e w' => e = .returned (.bool (decide (xs = ys))) ∧ Keep None w w' := by
  refine (V19_calls p n c q m d w (fun v w' => v = .bool (decide (xs = ys)) ∧ Keep None w w') ?_).mono fun e w' ⟨v, he, hv, hk⟩ => ⟨by rw [he, hv], hk⟩
  unfold V19
  have lx := hx.len
  have ly := hy.len
  refine pif_of (fun h => ?_) fun h => ?_
  · have h : ¬ n = m := by simp at h; omega
    refine ⟨?_, Keep.refl _ _⟩
    congr 1
    symm
    rw [decide_eq_false_iff_not]
    intro e
    rw [e] at lx; omega
  have h : n = m := by simp at h; omega
  subst h
  refine lp_of (fun s w1 => ∃ i : Nat, s.1 = i ∧ i ≤ n ∧ xs.take i = ys.take i ∧ Keep None w w1) (fun s _ => (n - s.1).toNat) ⟨0, rfl, Nat.zero_le _, rfl, Keep.refl _ _⟩ ?_
  rintro ⟨i', ⟨⟩⟩ w1 ⟨i, rfl, hi, heq, hk⟩
  simp only []
  refine pif_of (fun hlt => ?_) fun hge => ?_
  · have hlt : i < n := by simpa using hlt
    refine ((hx.keep0 hk).drew).ix (by omega) (by omega) fun a ha => ldI_of ha (((hy.keep0 hk).drew).ix (by omega) (by omega) fun b hb => ldI_of hb ?_)
    rw [Int.toNat_natCast]
    have ew : IntKind.wrap .i64 ((i : Int) + 1) = ((i + 1 : Nat) : Int) := by have := hx.small; rw [IntKind.wrap_i64]; omega
    rw [ew]
    refine pif_of (fun hne => ⟨?_, hk.drew⟩) fun he => ?_
    · have hne : ¬ xs.getD i 0 = ys.getD i 0 := by simpa using hne
      congr 1
      symm
      rw [decide_eq_false_iff_not]
      intro e
      exact hne (by rw [e])
    · have he : xs.getD i 0 = ys.getD i 0 := by simpa using he
      refine ⟨⟨i + 1, rfl, hlt, ?_, hk.drew⟩, by omega⟩
      rw [List.take_add_one, List.take_add_one, heq, getD_of (d := 0) (by omega), getD_of (d := 0) (by omega), he]
  · have hge : i = n := by simp at hge; omega
    subst hge
    refine ⟨?_, hk⟩
    congr 1
    symm
    rw [decide_eq_true_eq]
    rw [← lx, List.take_length, lx, ← ly, List.take_length] at heq
    exact heq
theorem wf_small {x : Int} (h : -1099511627776 ≤ x ∧ x ≤ 1099511627776) : (Lit.int .i64 x).wf = true := by
  simp [Lit.wf, IntKind.min, IntKind.max, IntKind.signed, IntKind.bits]; omega

structure B2 (n : Nat) (w : World) (T : TI) (M : MI) (R : List E) (L : List Int) : Prop where
  tr : Tr n w T R L
  mr : MRep w M n R L.length
  dis : ∀ i, T.F i → ¬ M.F i
def FF (T : TI) (M : MI) (i : Nat) : Prop := T.F i ∨ M.F i
section
variable {n : Nat} {w : World} {T : TI} {M : MI} {R : List E} {L : List Int}
theorem B2.keep {w' : World} {K : Nat → Prop} (h : B2 n w T M R L) (hk : Keep K w w') (hn : ∀ i, FF T M i → ¬ K i) : B2 n w' T M R L :=
  ⟨h.tr.keep hk fun i hi => hn i (Or.inl hi), h.mr.keep hk fun i hi => hn i (Or.inr hi), h.dis⟩
theorem B2.keep0 {w' : World} (h : B2 n w T M R L) (hk : Keep None w w') : B2 n w' T M R L := h.keep hk fun _ _ h => h
theorem B2.drew (h : B2 n w T M R L) : B2 n w.drew T M R L := ⟨h.tr.drew, h.mr.drew, h.dis⟩
theorem B2.lt (h : B2 n w T M R L) : ∀ i, FF T M i → i < w.heap.size := fun i hi => by
  rcases hi with hi | hi
  · exact h.tr.lt i hi
  · exact h.mr.lt i hi
theorem B2.rlen (h : B2 n w T M R L) : R.length ≤ 1048576 := by have := h.tr.small; omega
theorem B2.lit (h : B2 n w T M R L) : ∀ e ∈ R, e.lit.natAbs ≤ 1048576 := fun e he => by
  have := own_lt (h.tr.st.own e he)
  have := h.tr.small
  omega
theorem B2.wfL (h : B2 n w T M R L) : ∀ x ∈ lits R, (Lit.int .i64 x).wf = true := fun x hx => by
  obtain ⟨e, he, rfl⟩ := List.mem_map.1 hx
  have := h.lit e he
  exact wf_small (by omega)
theorem Fresh.slL {w w' w2 : World} {p : Option Addr} {nn c : Nat} {xs : List Int} {v : Value} (h : Fresh w w' v xs) (hv : v = .slice p nn c) (hw : ∀ x ∈ xs, (Lit.int .i64 x).wf = true) (hk : Keep None w' w2) : SlL w2 p nn xs := by
  obtain ⟨p', c', e, hO, _⟩ := h
  rw [hv] at e
  injection e with e1 e2 e3
  subst e1 e2 e3
  exact (Own.slL (hO.keep0 hk) hw)
theorem mem_marks {x : Int} (h : x ∈ marks R) : 0 ≤ x ∧ x < R.length := by
  unfold marks at h
  obtain ⟨i, hi, hx⟩ := List.mem_filterMap.1 h
  simp at hi
  rw [List.getElem?_eq_getElem hi] at hx
  simp only [] at hx
  split at hx
  · injection hx with hx; omega
  · cases hx
theorem B2.wfM (h : B2 n w T M R L) : ∀ x ∈ L, (Lit.int .i64 x).wf = true := fun x hx => by
  rw [← h.tr.st.marks] at hx
  have := mem_marks hx
  have := h.rlen
  exact wf_small (by omega)

/-- both lists are the same -/
theorem lits_same (h : B2 n w T M R L) {K : Bool → World → Prop} (hK : ∀ w', Keep None w w' → K true w') :
    cl Try.prog 10 [Pt T.t] w fun e81 w19 => ∃ (x80 : Option Addr) (x80n x80c : Nat), e81 = Ending.returned (.slice x80 x80n x80c) ∧
      cl Try.prog 31 [Pt M.m] w19 fun e83 w20 => ∃ (x82 : Option Addr) (x82n x82c : Nat), e83 = Ending.returned (.slice x82 x82n x82c) ∧
      cl Try.prog 19 [.slice x80 x80n x80c, .slice x82 x82n x82c] w20 fun e85 w21 => ∃ x84 : Bool, e85 = Ending.returned (.bool x84) ∧ K x84 w21 := by
  refine cl_of ok10 h.tr.lits fun e w1 ⟨v, he, hf, k1⟩ => ?_
  have hf' := hf
  obtain ⟨p, c, hv, _, _⟩ := hf
  refine ⟨p, _, c, by rw [he, hv], ?_⟩
  have h1 := h.keep0 k1
  refine cl_of ok31 (lits31 h1.mr h.rlen) fun e w2 ⟨v2, he2, hf2, k2⟩ => ?_
  have hf2' := hf2
  obtain ⟨p2, c2, hv2, _, _⟩ := hf2
  refine ⟨p2, _, c2, by rw [he2, hv2], ?_⟩
  refine cl_of ok19 (same19 (hf'.slL hv h.wfL k2) (hf2'.slL hv2 h.wfL (Keep.refl _ _))) fun e w3 ⟨he3, k3⟩ => ⟨_, he3, ?_⟩
  rw [decide_eq_true (rfl : lits R = lits R)]
  exact hK w3 ((k1.then0 k2).then0 k3)
theorem marks_same (h : B2 n w T M R L) {K : Bool → World → Prop} (hK : ∀ w', Keep None w w' → K true w') :
    cl Try.prog 11 [Pt T.t] w fun e81 w19 => ∃ (x80 : Option Addr) (x80n x80c : Nat), e81 = Ending.returned (.slice x80 x80n x80c) ∧
      cl Try.prog 32 [Pt M.m] w19 fun e83 w20 => ∃ (x82 : Option Addr) (x82n x82c : Nat), e83 = Ending.returned (.slice x82 x82n x82c) ∧
      cl Try.prog 19 [.slice x80 x80n x80c, .slice x82 x82n x82c] w20 fun e85 w21 => ∃ x84 : Bool, e85 = Ending.returned (.bool x84) ∧ K x84 w21 := by
  refine cl_of ok11 h.tr.marks fun e w1 ⟨v, he, hf, k1⟩ => ?_
  have hf' := hf
  obtain ⟨p, c, hv, _, _⟩ := hf
  refine ⟨p, _, c, by rw [he, hv], ?_⟩
  have h1 := h.keep0 k1
  refine cl_of ok32 (marks32 h1.mr h.rlen) fun e w2 ⟨v2, he2, hf2, k2⟩ => ?_
  rw [h.tr.st.marks] at hf2
  have hf2' := hf2
  obtain ⟨p2, c2, hv2, _, _⟩ := hf2
  refine ⟨p2, _, c2, by rw [he2, hv2], ?_⟩
  refine cl_of ok19 (same19 (hf'.slL hv h.wfM k2) (hf2'.slL hv2 h.wfM (Keep.refl _ _))) fun e w3 ⟨he3, k3⟩ => ⟨_, he3, ?_⟩
  rw [decide_eq_true (rfl : L = L)]
  exact hK w3 ((k1.then0 k2).then0 k3)
/-- both go on alike -/
def Next (n : Nat) (w : World) (T : TI) (M : MI) (w' : World) : Prop :=
  Keep (FF T M) w w' ∧ ∃ T' M' R' L', T'.t = T.t ∧ M'.m = M.m ∧ (∀ i, FF T' M' i → FF T M i ∨ w.heap.size ≤ i) ∧ B2 n w' T' M' R' L'
theorem Next.same {w' : World} (h : B2 n w T M R L) (hk : Keep None w w') : Next n w T M w' :=
  ⟨hk.none, T, M, R, L, rfl, rfl, fun i hi => Or.inl hi, h.keep0 hk⟩
/-- the program's call, then the document's -/
theorem Next.two {w1 w2 : World} {R' : List E} {L' : List Int} (h : B2 n w T M R L) (h1 : TLaid w T n R' L' w1) (h2 : MLaid w1 M n R' L'.length w2) : Next n w T M w2 := by
  obtain ⟨k1, T', m1, hT⟩ := h1
  obtain ⟨k2, M', m2, hM⟩ := h2
  have z1 := k1.size
  have hlt := h.lt
  have tM : ∀ i, T'.F i → ¬ M.F i := fun i hi hm => by
    rcases m1.2 i hi with hh | hh
    · exact h.dis i hh hm
    · have := hlt i (Or.inr hm); omega
  refine ⟨(k1.mono (S' := FF T M) fun i _ hh => Or.inl hh).trans k2 fun i _ hh => Or.inr hh, T', M', R', L', m1.1, m2.1, ?_, ⟨hT.keep k2 tM, hM, ?_⟩⟩
  · rintro i (hi | hi)
    · rcases m1.2 i hi with hh | hh
      · exact Or.inl (Or.inl hh)
      · exact Or.inr hh
    · rcases m2.2 i hi with hh | hh
      · exact Or.inl (Or.inr hh)
      · exact Or.inr (by omega)
  · intro i hi hm
    rcases m2.2 i hm with hh | hh
    · exact tM i hi hh
    · have := hT.lt i hi; omega
end
end Go.Proofs.Ytioaaeianjgaoaa.Trail
