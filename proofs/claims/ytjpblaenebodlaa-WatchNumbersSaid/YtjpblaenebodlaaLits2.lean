/- The document's Tidy, Join and Without. -/
import Derived.Test.YtjpblaenebodlaaLits
set_option linter.unusedVariables false
set_option linter.unusedSimpArgs false
set_option maxRecDepth 100000
namespace Go.Proofs.Ytjpblaenebodlaa.Lits
open Go Go.Proofs.Ytjpblaenebodlaa.Vc Go.Proofs.Ytjpblaenebodlaa.T
open Go.Proofs.Ytjpblaenebodlaa.Apart (RdL own_rdl wrap_nat getE own_len take_snoc New Gro)

theorem srt_ge : ∀ {L : List Int}, Srt L → (∀ x ∈ L, fl x = true) → ∀ (i : Nat) (x : Int), L[i]? = some x → (i : Int) ≤ idx x := by
  intro L hs hf i
  induction i with
  | zero => intro x hx; have := (idx_range (hf x (List.mem_of_getElem? hx))).1; omega
  | succ i ih =>
    intro x hx
    have hi := (List.getElem?_eq_some_iff.1 hx).1
    obtain ⟨y, hy⟩ := getE (show i < L.length by omega)
    have := ih y hy
    have := srt_lt hs hy hx (Nat.lt_succ_self _)
    omega
theorem srt_len {L : List Int} (h : Srt L) (hf : ∀ x ∈ L, fl x = true) : L.length ≤ 2097153 := by
  by_cases h0 : L.length = 0
  · omega
  obtain ⟨x, hx⟩ := getE (show L.length - 1 < L.length by omega)
  have := srt_ge h hf _ _ hx
  have := (idx_range (hf x (List.mem_of_getElem? hx))).2
  omega
theorem Td.len {M : Int → Prop} {L : List Int} (h : Td M L) : L.length ≤ 2097153 := srt_len h.srt h.all
theorem add_add (a : Addr) (h i : Nat) : (a.add h).add i = a.add (h + i) := by
  unfold Addr.add
  by_cases h0 : h = 0
  · subst h0; simp
  · by_cases i0 : i = 0
    · subst i0; simp [h0]
    · rw [if_neg i0, if_neg h0, if_neg (by omega)]
      simp [Nat.add_assoc]
section
variable {w : World} {p : Option Addr} {n c : Nat} {cs : List Int}
theorem RdL.take (h : RdL w p n cs) {m : Nat} (hm : m ≤ n) : RdL w p m (cs.take m) := ⟨by have := h.len; simp; omega, fun i x hx => by
  rw [List.getElem?_take] at hx
  split at hx
  · exact h.cell i x hx
  · cases hx⟩
theorem RdL.drop (h : RdL w p n cs) {m : Nat} (hm : m < n) (hc : n ≤ c) : RdL w (slA p c m 1) (n - m) (cs.drop m) := ⟨by have := h.len; simp; omega, fun i x hx => by
  rw [List.getElem?_drop] at hx
  obtain ⟨a, rfl, hc'⟩ := h.cell _ x hx
  refine ⟨a.add (m * 1), ?_, ?_⟩
  · unfold slA; rw [if_neg (by omega)]; rfl
  · rw [add_add, Nat.mul_one]; exact hc'⟩
theorem slA_zero (p : Option Addr) (c sz : Nat) : slA p c 0 sz = p := by
  unfold slA
  split
  · rfl
  · cases p with
    | none => rfl
    | some a => simp [Addr.add]
theorem Td.nil {M : Int → Prop} (h : ∀ x, fl x = true → ¬ M x) : Td M [] := ⟨List.Pairwise.nil, fun x => ⟨fun h => (by cases h), fun ⟨a, b⟩ => absurd a (h x b)⟩⟩
theorem new_rdl {xs : List Int} {v : Value} {w' : World} (h : New w xs v w') : ∃ p c, v = .slice p xs.length c ∧ RdL w' p xs.length xs ∧ xs.length ≤ c ∧ Keep None w w' := by
  obtain ⟨p, c, rfl, hO, _, hk⟩ := h
  exact ⟨p, c, rfl, own_rdl hO, hO.le.1, hk⟩
theorem New.pre {w0 : World} {xs : List Int} {v : Value} {w' : World} (hk : Keep None w0 w) (h : New w xs v w') : New w0 xs v w' := by
  obtain ⟨p, c, rfl, hO, hf, k⟩ := h
  exact ⟨p, c, rfl, hO, fun i hi => by have := hf i hi; have := hk.size; omega, hk.then0 k⟩
theorem tidyR : ∀ (n : Nat) (w : World) (p : Option Addr) (c : Nat) (cs : List Int), RdL w p n cs → n ≤ 17592186044416 → n ≤ c →
    Calls Try.prog 55 #[.slice p n c] w fun e w' => ∃ v L, e = .returned v ∧ Td (· ∈ cs) L ∧ New w L v w' := by
  intro n
  induction n using Nat.strongRecOn with
  | ind n ih =>
    intro w p c cs h hn hc
    refine (V55_calls p n c w (fun v w' => ∃ L, Td (· ∈ cs) L ∧ New w L v w') ?_).mono fun e w' ⟨v, he, L, hk⟩ => ⟨v, L, he, hk⟩
    unfold V55
    have hl := h.len
    have hnil : ∀ {L : List Int} {w' : World}, Keep None w w' → New w [] (.slice none 0 0) w' := fun k => ⟨none, 0, rfl, Own.nil _ _ _, (fun i ⟨a, h, _⟩ => by cases h), k⟩
    refine pif_of (fun h0 => ?_) fun h0 => ?_
    · have h0 : n = 0 := by simp at h0; omega
      subst h0
      have : cs = [] := List.eq_nil_of_length_eq_zero hl
      subst this
      exact ⟨[], Td.nil (fun x _ (h : x ∈ []) => by cases h), hnil (L := []) (Keep.refl _ _)⟩
    have h0 : n ≠ 0 := by simp at h0; omega
    refine pif_of (fun h1 => ?_) fun h1 => ?_
    · have h1 : n = 1 := by simp at h1; omega
      subst h1
      obtain ⟨x, rfl⟩ : ∃ x, cs = [x] := List.length_eq_one_iff.1 hl
      refine h.ix (i := 0) (by omega) fun a y hy ha => ldI_of ha ?_
      simp at hy; subst hy
      refine cl_of ok68 (formedR x) fun e w1 ⟨he, k1⟩ => ⟨_, he, ?_⟩
      refine pif_of (fun hf => ?_) fun hf => ?_
      · refine (h.keep0 k1).ix (i := 0) (by omega) fun a y hy ha => ldI_of ha ?_
        simp at hy; subst hy
        refine alc_at fun b w2 hb hB k2 => ?_
        refine ⟨[x], ⟨List.pairwise_singleton .., fun y => ?_⟩, some ⟨b, 0, none⟩, 1, rfl, Or.inr ⟨b, _, rfl, hB, Nat.le_refl _, by simp only [maxLen]; omega, rfl, rfl⟩, (fun i ⟨a, h, h'⟩ => by cases h; simp only [] at h'; have := k1.size; omega), k1.then0 k2⟩
        simp only [List.mem_singleton]
        exact ⟨fun e => ⟨e, by rw [e]; exact hf⟩, fun e => e.1⟩
      · refine ⟨[], Td.nil (fun y hy (hm : y ∈ [x]) => ?_), hnil (L := []) k1⟩
        simp only [List.mem_singleton] at hm
        rw [hm, hf] at hy; cases hy
    have h1 : 2 ≤ n := by simp at h1; omega
    have e1 : Int.tdiv (n : Int) 2 = ((n / 2 : Nat) : Int) := by rw [Int.tdiv_eq_ediv_of_nonneg (by omega)]; rfl
    have e2 : IntKind.wrap .i64 (((n / 2 : Nat) : Int)) = ((n / 2 : Nat) : Int) := by rw [IntKind.wrap_i64]; omega
    rw [e1, e2, Int.toNat_natCast, slA_zero, Nat.sub_zero, Nat.sub_zero]
    refine ⟨by omega, by omega, ?_⟩
    refine cl_of ok55 (ih (n / 2) (by omega) w p c _ (RdL.take h (by omega)) (by omega) (by omega)) fun e w1 ⟨v, L, he, hT, hN⟩ => ?_
    obtain ⟨q, d, rfl, hR, hd, k1⟩ := new_rdl hN
    refine ⟨_, _, _, he, by omega, by omega, ?_⟩
    refine cl_of ok55 (ih (n - n / 2) (by omega) w1 _ (c - n / 2) _ ((RdL.drop h (m := n / 2) (by omega) hc).keep0 k1) (by omega) (by omega)) fun e w2 ⟨v2, L2, he, hT2, hN2⟩ => ?_
    obtain ⟨q2, d2, rfl, hR2, hd2, k2⟩ := new_rdl hN2
    refine ⟨_, _, _, he, ?_⟩
    have l1 := hT.len
    have l2 := hT2.len
    refine cl_of ok69 (merged (hR.keep0 k2) hR2 (by omega) hT.srt hT2.srt hT.all hT2.all) fun e w3 ⟨v3, L3, he, hs3, hm3, hN3⟩ => ?_
    have hN3' := New.pre (k1.then0 k2) hN3
    obtain ⟨q3, d3, rfl, hR3⟩ := hN3'
    refine ⟨_, _, _, he, L3, ⟨hs3, fun x => ?_⟩, q3, d3, rfl, hR3⟩
    rw [hm3, hT.mem, hT2.mem]
    have : x ∈ cs ↔ x ∈ cs.take (n / 2) ∨ x ∈ cs.drop (n / 2) := by
      rw [← List.mem_append, List.take_append_drop]
    rw [this]
    exact ⟨fun h => h.elim (fun h => ⟨Or.inl h.1, h.2⟩) fun h => ⟨Or.inr h.1, h.2⟩, fun h => h.1.elim (fun h' => Or.inl ⟨h', h.2⟩) fun h' => Or.inr ⟨h', h.2⟩⟩
end
end Go.Proofs.Ytjpblaenebodlaa.Lits
