/- A Watch as a whole: where it lies, what it knows; its methods by that. -/
import Derived.Test.YtjpblaenebodlaaWZ
set_option linter.unusedVariables false
set_option linter.unusedSimpArgs false
set_option linter.unusedSectionVars false
set_option maxRecDepth 100000
namespace Go.Proofs.Ytjpblaenebodlaa.Wt
open Go Go.Proofs.Ytjpblaenebodlaa.Vc Go.Proofs.Ytjpblaenebodlaa.T
open Go.Proofs.Ytjpblaenebodlaa.Apart (RdL own_rdl wrap_nat getE own_len copy same take_snoc Sl sv New)
open Go.Proofs.Ytjpblaenebodlaa.Lits (fl fl_iff idx idx_inj idx_range Ans ans_of indexP formedP tidyP Td Srt)

/-- a Watch in the blocks M -/
structure Wa (M : Nat → Prop) (w : World) (b : Nat) (C : List (List Int)) (S : WS) : Prop where
  rp : ∃ o h, Rp noEx w b o h S ∧ ∀ i, i < w.heap.size → tMine (o i) → M i
  at_ : At C S
  cw : ∀ c ∈ C, ∀ x ∈ c, Wi S.nv x
  lt : ∀ i, M i → i < w.heap.size
  dp : S.st.length ≤ S.tr.length ∧ ∀ (i s : Nat), S.st[i]? = some s → i ≤ s
/-- the blocks of a thing are new, or were its own -/
def Grow (M : Nat → Prop) (w : World) (M' : Nat → Prop) : Prop := ∀ i, M' i → M i ∨ w.heap.size ≤ i
section
variable {M M' : Nat → Prop} {w w' : World} {b : Nat} {C : List (List Int)} {S S' : WS}
theorem Wa.keep {U : Nat → Prop} (h : Wa M w b C S) (hk : Keep U w w') (hU : ∀ i, U i → ¬ M i) : Wa M w' b C S := by
  obtain ⟨o, hs, hR, ho⟩ := h.rp
  have hR1 : Rp noEx w b (fun i => if i < w.heap.size then o i else -9) hs S := hR.reown fun i hi => if_pos hi
  refine ⟨⟨fun i => if i < w.heap.size then o i else -9, hs, hR1.keepN hk fun i hi hu => ?_, fun i _ ht => ?_⟩, h.at_, h.cw, fun i hi => Nat.lt_of_lt_of_le (h.lt i hi) hk.size, h.dp⟩
  · show (if i < w.heap.size then o i else -9) = -9
    rw [if_pos hi]
    apply Classical.byContradiction
    intro hne
    exact hU i hu (ho i hi hne)
  · by_cases hi : i < w.heap.size
    · refine ho i hi ?_
      have ht : (if i < w.heap.size then o i else -9) ≠ -9 := ht
      rw [if_pos hi] at ht; exact ht
    · have ht : (if i < w.heap.size then o i else -9) ≠ -9 := ht
      rw [if_neg hi] at ht; exact absurd rfl ht
theorem Wa.keep0 (h : Wa M w b C S) (hk : Keep None w w') : Wa M w' b C S := h.keep hk fun i hi => hi.elim
theorem Wa.blk (h : Wa M w b C S) : M b := by
  obtain ⟨o, hs, hR, ho⟩ := h.rp
  exact ho b hR.self.lt (by rw [hR.selfO]; unfold tMine; decide)
/-- what a method leaves -/
structure After (M : Nat → Prop) (w : World) (b : Nat) (C : List (List Int)) (S : WS) (M' : Nat → Prop) (w' : World) : Prop where
  wa : Wa M' w' b C S
  gr : Grow M w M'
  kp : Keep M w w'
theorem After.same (h : Wa M w b C S) (hk : Keep None w w') : After M w b C S M w' := ⟨h.keep0 hk, fun i hi => Or.inl hi, hk.none⟩
/-- out of the walk's word -/
theorem after_of {o : Nat → Int} {hs : Hs} (hR : Rp noEx w b o hs S) (ho : ∀ i, i < w.heap.size → tMine (o i) → M i) {C' : List (List Int)} (hN : Nx tMine noEx w b o S' w') (hA : At C' S') (hcw : ∀ c ∈ C', ∀ x ∈ c, Wi S'.nv x) (hd : S'.st.length ≤ S'.tr.length ∧ ∀ (i s : Nat), S'.st[i]? = some s → i ≤ s) :
    ∃ M', After M w b C' S' M' w' := by
  obtain ⟨o', h', hR', ha, hk⟩ := hN
  refine ⟨fun i => i < w'.heap.size ∧ tMine (o' i) , ⟨⟨o', h', hR', fun i hi ht => ⟨hi, ht⟩⟩, hA, hcw, fun i hi => hi.1, hd⟩, fun i hi => ?_, hk.mono fun i hi ht => ho i hi ht⟩
  by_cases hlt : i < w.heap.size
  · refine Or.inl (ho i hlt ?_)
    have h2 := hi.2
    rw [ha i hlt] at h2
    exact h2
  · exact Or.inr (by omega)
theorem wa_run (h : Wa M w b C S) : Calls Try.prog 10 #[Pt b] w fun e w' => ∃ (v : Bool) (M' : Nat → Prop) (S' : WS), e = .returned (.bool v) ∧ After M w b C S' M' w' ∧ S'.nv = S.nv ∧ S'.st = S.st ∧ S'.rest = v ∧ S'.clash = (!v) ∧
    (v = true ↔ ¬ Clash C S.tr) ∧ (v = true → S.tr <+: S'.tr ∧ ∀ x, x ∈ S'.tr ↔ Der C S.tr x) ∧ (v = false → S'.tr = S.tr) := by
  obtain ⟨o, hs, hR, ho⟩ := h.rp
  refine (run10 hR h.at_).mono fun e w' ⟨v, he, S', hN, hA, hnv, hst, hr, hc, ht, hf⟩ => ?_
  have h0 : ∀ c ∈ C, ∀ x ∈ c, x ≠ 0 := fun c hc x hx => (h.cw c hc x hx).1
  obtain ⟨p1, p2⟩ := run_plain hA hr h0 ht hf
  have hle : S.tr.length ≤ S'.tr.length := by
    cases v with
    | true => exact (ht rfl).1.length_le
    | false => rw [(hf rfl).1]; exact Nat.le_refl _
  obtain ⟨M', hA'⟩ := after_of hR ho hN hA (fun c hc x hx => by rw [hnv]; exact h.cw c hc x hx) ⟨by rw [hst]; exact Nat.le_trans h.dp.1 hle, fun i s hi => h.dp.2 i s (by rw [← hst]; exact hi)⟩
  exact ⟨v, M', S', he, hA', hnv, hst, hr, hc, p1, fun hv => ⟨(ht hv).1, p2 hv⟩, fun hv => (hf hv).1⟩
theorem wa_add (h : Wa M w b C S) {p : Option Addr} {n c : Nat} {cs : List Int} (hRd : RdL w p n cs) (hn : n ≤ 17592186044416) (hC : C.length + 1 ≤ cap) :
    Calls Try.prog 12 #[Pt b, .slice p n c] w fun e w' => (e = .returned (I 1) ∧ (¬ ∀ x ∈ cs, Wi S.nv x) ∧ Keep None w w') ∨
      (e = .returned (I 0) ∧ (∀ x ∈ cs, Wi S.nv x) ∧ ∃ (M' : Nat → Prop) (S' : WS), After M w b (C ++ [cs]) S' M' w' ∧ S'.nv = S.nv ∧ S'.tr = S.tr ∧ S'.st = S.st ∧ S'.rest = false ∧ S'.clash = S.clash) := by
  obtain ⟨o, hs, hR, ho⟩ := h.rp
  refine (add12 hR h.at_ hRd hn hC).mono fun e w' hh => ?_
  rcases hh with hh | ⟨he, hw, S', hN, hA, e1, e2, e3, e4, e5⟩
  · exact Or.inl hh
  · refine Or.inr ⟨he, hw, ?_⟩
    obtain ⟨M', hA'⟩ := after_of hR ho hN hA (fun c hc x hx => by
      rw [e1]
      rcases List.mem_append.1 hc with hc | hc
      · exact h.cw c hc x hx
      · rw [List.mem_singleton.1 hc] at hx; exact hw x hx) ⟨by rw [e2, e3]; exact h.dp.1, fun i s hi => h.dp.2 i s (by rw [← e3]; exact hi)⟩
    exact ⟨M', S', hA', e1, e2, e3, e4, e5⟩
/-- Assume's answer -/
def Asm (M : Nat → Prop) (w : World) (b : Nat) (C : List (List Int)) (S : WS) (l v : Int) (w' : World) : Prop :=
  (v = 1 ∧ ¬ Wi S.nv l ∧ Keep None w w') ∨ (v = 3 ∧ Wi S.nv l ∧ S.rest = false ∧ Keep None w w') ∨ (v = 50 ∧ Wi S.nv l ∧ S.rest = true ∧ (l ∈ S.tr ∨ -l ∈ S.tr) ∧ Keep None w w') ∨
  (v = 0 ∧ Wi S.nv l ∧ S.rest = true ∧ (l ∉ S.tr ∧ -l ∉ S.tr) ∧ ∃ M', After M w b C { S with st := S.st ++ [S.tr.length], tr := S.tr ++ [l], rest := false } M' w')
theorem wa_assume (h : Wa M w b C S) (l : Int) : Calls Try.prog 8 #[Pt b, I l] w fun e w' => ∃ v : Int, e = .returned (I v) ∧ Asm M w b C S l v w' := by
  obtain ⟨o, hs, hR, ho⟩ := h.rp
  have htl := h.at_.iv.wf.trl
  refine (assume8 hR h.at_ (by have := h.dp.1; omega) l).mono fun e w' ⟨v, he, hh⟩ => ?_
  rcases hh with ⟨rfl, hh⟩ | ⟨rfl, hh⟩ | ⟨rfl, h1, h2, h3, h4⟩ | ⟨rfl, h1, h2, h3, h4⟩
  · exact ⟨1, he, Or.inl ⟨rfl, hh⟩⟩
  · exact ⟨3, he, Or.inr (Or.inl ⟨rfl, hh⟩)⟩
  · refine ⟨50, he, Or.inr (Or.inr (Or.inl ⟨rfl, h1, h2, ?_, h4⟩))⟩
    apply Classical.byContradiction
    intro hn
    exact h3 (lv_nil.2 ⟨fun a => hn (Or.inl a), fun a => hn (Or.inr a)⟩)
  · refine ⟨0, he, Or.inr (Or.inr (Or.inr ⟨rfl, h1, h2, lv_nil.1 h3, ?_⟩))⟩
    refine after_of hR ho h4 (h.at_.assume h2 h1 h3) h.cw ⟨?_, fun i s hi => ?_⟩
    · show (S.st ++ [S.tr.length]).length ≤ (S.tr ++ [l]).length
      have := h.dp.1
      simp only [List.length_append, List.length_singleton]; omega
    · have hi : (S.st ++ [S.tr.length])[i]? = some s := hi
      rcases Nat.lt_trichotomy i S.st.length with hl | hl | hl
      · rw [List.getElem?_append_left hl] at hi; exact h.dp.2 i s hi
      · rw [hl, List.getElem?_append_right (Nat.le_refl _), Nat.sub_self] at hi
        injection hi with hi
        have := h.dp.1
        omega
      · rw [List.getElem?_eq_none (by simp; omega)] at hi; cases hi
theorem wa_undo (h : Wa M w b C S) : Calls Try.prog 9 #[Pt b] w fun e w' => (e = .returned (I 3) ∧ S.st = [] ∧ Keep None w w') ∨
      (e = .returned (I 0) ∧ ∃ st' s M', S.st = st' ++ [s] ∧ After M w b C { S with tr := S.tr.take s, hd := s, st := st', rest := false } M' w') := by
  obtain ⟨o, hs, hR, ho⟩ := h.rp
  have htl := h.at_.iv.wf.trl
  refine (undo9 hR h.at_ (by have := h.dp.1; omega)).mono fun e w' hh => ?_
  rcases hh with hh | ⟨he, st', s, hst, hN⟩
  · exact Or.inl hh
  · refine Or.inr ⟨he, st', s, ?_⟩
    have hs1 := h.at_.iv.st0 s (by rw [hst]; simp)
    have hs2 := h.at_.iv.hdl
    obtain ⟨M', hA'⟩ := after_of hR ho hN (h.at_.undo hst) h.cw ⟨by
      show st'.length ≤ (S.tr.take s).length
      have := h.dp.2 st'.length s (by rw [hst, List.getElem?_append_right (Nat.le_refl _), Nat.sub_self]; rfl)
      rw [List.length_take]; omega, fun i s' hi => h.dp.2 i s' (by
        have hl := (List.getElem?_eq_some_iff.1 hi).1
        rw [hst, List.getElem?_append_left hl]; exact hi)⟩
    exact ⟨M', hst, hA'⟩
theorem wa_lits (h : Wa M w b C S) : Calls Try.prog 21 #[Pt b] w fun e w' => ∃ v L, e = .returned v ∧ Td (· ∈ S.tr) L ∧ New w L v w' := by
  obtain ⟨o, hs, hR, ho⟩ := h.rp
  exact lits21 hR (by have := h.at_.iv.wf.trl; omega)
theorem wa_clash (h : Wa M w b C S) : Calls Try.prog 22 #[Pt b] w fun e w' => e = .returned (.bool S.clash) ∧ Keep None w w' := by
  obtain ⟨o, hs, hR, ho⟩ := h.rp
  exact clashes22 hR
theorem wa_depth (h : Wa M w b C S) : Calls Try.prog 14 #[Pt b] w fun e w' => e = .returned (I (S.st.length : Nat)) ∧ Keep None w w' := by
  obtain ⟨o, hs, hR, ho⟩ := h.rp
  exact depth14 hR
/-- New's answer -/
def Nwa (w : World) (nv : Int) (css : List (List Int)) (q : Option Addr) (v : Int) (w' : World) : Prop :=
  (q = none ∧ v = 1 ∧ ¬ FormedF nv css ∧ Keep None w w') ∨
  ∃ b M S, q = some ⟨b, 0, none⟩ ∧ v = 0 ∧ FormedF nv css ∧ Wa M w' b css S ∧ (∀ i, M i → w.heap.size ≤ i) ∧ Keep None w w' ∧ S.nv = nv.toNat ∧ S.tr = [] ∧ S.st = [] ∧ S.rest = false ∧ S.clash = false
theorem wa_new {B : Nat → Prop} {nv : Int} {p : Option Addr} {n c : Nat} {css : List (List Int)} (hC : RdC B w p n css) (hB : ∀ i, B i → i < w.heap.size) (hn : n ≤ cap) (hl : ∀ es ∈ css, es.length ≤ 17592186044416) :
    Calls Try.prog 7 #[.agg #[I nv, .slice p n c]] w fun e w' => ∃ q v, e = .returned (.tuple #[.pointer q, I v]) ∧ Nwa w nv css q v w' := by
  refine (new7 hC hB hn hl).mono fun e w' ⟨v, he, hh⟩ => ?_
  rcases hh with ⟨rfl, h1, h2⟩ | ⟨b, o, h, S, rfl, hf, hb, hk, hR, hA, e1, e2, e3, e4, e5, ho⟩
  · exact ⟨none, 1, he, Or.inl ⟨rfl, rfl, h1, h2⟩⟩
  · refine ⟨_, 0, he, Or.inr ⟨b, fun i => i < w'.heap.size ∧ tMine (o i), S, rfl, rfl, hf, ⟨⟨o, h, hR, fun i hi ht => ⟨hi, ht⟩⟩, hA, fun c hc x hx => by rw [e1]; exact hf.2.2 c hc x hx, fun i hi => hi.1, by rw [e3]; exact ⟨Nat.zero_le _, fun i s hi => by simp at hi⟩⟩, fun i hi => ?_, hk, e1, e2, e3, e4, e5⟩⟩
    apply Classical.byContradiction
    intro hlt
    exact hi.2 (ho i (by omega))
end
end Go.Proofs.Ytjpblaenebodlaa.Wt
