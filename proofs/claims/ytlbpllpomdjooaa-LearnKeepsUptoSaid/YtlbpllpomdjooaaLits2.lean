/- The document's Tidy, Join and Without. -/
import Derived.Test.YtlbpllpomdjooaaLits
set_option linter.unusedVariables false
set_option linter.unusedSimpArgs false
set_option maxRecDepth 100000
namespace Go.Proofs.Ytlbpllpomdjooaa.Lits
open Go Go.Proofs.Ytlbpllpomdjooaa.Vc Go.Proofs.Ytlbpllpomdjooaa.T
open Go.Proofs.Ytlbpllpomdjooaa.Apart (RdL own_rdl wrap_nat getE own_len take_snoc New Gro)

theorem srt_ge : ∀ {L : List Int}, Srt L → (∀ x ∈ L, fl x = true) → ∀ (i : Nat) (x : Int), L[i]? = some x → (i : Int) ≤ idx x := by
  intro L hs hf i
  induction i with
  | zero => intro x hx; have := (idx_range (hf x (List.mem_of_getElem? hx))).1; omega
  | succ i ih =>
    intro x hx
    have hi := (List.getElem?_eq_some_iff.1 hx).1
    obtain ⟨y, hy⟩ := getE (show i < L.length by omega)
    have := ih y hy
    have := srt_lt hs hy hx (Nat.lt_succ_self _)
    omega
theorem srt_len {L : List Int} (h : Srt L) (hf : ∀ x ∈ L, fl x = true) : L.length ≤ 2097153 := by
  by_cases h0 : L.length = 0
  · omega
  obtain ⟨x, hx⟩ := getE (show L.length - 1 < L.length by omega)
  have := srt_ge h hf _ _ hx
  have := (idx_range (hf x (List.mem_of_getElem? hx))).2
  omega
theorem Td.len {M : Int → Prop} {L : List Int} (h : Td M L) : L.length ≤ 2097153 := srt_len h.srt h.all
theorem add_add (a : Addr) (h i : Nat) : (a.add h).add i = a.add (h + i) := by
  unfold Addr.add
  by_cases h0 : h = 0
  · subst h0; simp
  · by_cases i0 : i = 0
    · subst i0; simp [h0]
    · rw [if_neg i0, if_neg h0, if_neg (by omega)]
      simp [Nat.add_assoc]
section
variable {w : World} {p : Option Addr} {n c : Nat} {cs : List Int}
theorem RdL.take (h : RdL w p n cs) {m : Nat} (hm : m ≤ n) : RdL w p m (cs.take m) := ⟨by have := h.len; simp; omega, fun i x hx => by
  rw [List.getElem?_take] at hx
  split at hx
  · exact h.cell i x hx
  · cases hx⟩
theorem RdL.drop (h : RdL w p n cs) {m : Nat} (hm : m < n) (hc : n ≤ c) : RdL w (slA p c m 1) (n - m) (cs.drop m) := ⟨by have := h.len; simp; omega, fun i x hx => by
  rw [List.getElem?_drop] at hx
  obtain ⟨a, rfl, hc'⟩ := h.cell _ x hx
  refine ⟨a.add (m * 1), ?_, ?_⟩
  · unfold slA; rw [if_neg (by omega)]; rfl
  · rw [add_add, Nat.mul_one]; exact hc'⟩
theorem slA_zero (p : Option Addr) (c sz : Nat) : slA p c 0 sz = p := by
  unfold slA
  split
  · rfl
  · cases p with
    | none => rfl
    | some a => simp [Addr.add]
theorem Td.nil {M : Int → Prop} (h : ∀ x, fl x = true → ¬ M x) : Td M [] := ⟨List.Pairwise.nil, fun x => ⟨fun h => (by cases h), fun ⟨a, b⟩ => absurd a (h x b)⟩⟩
theorem new_rdl {xs : List Int} {v : Value} {w' : World} (h : New w xs v w') : ∃ p c, v = .slice p xs.length c ∧ RdL w' p xs.length xs ∧ xs.length ≤ c ∧ Keep None w w' := by
  obtain ⟨p, c, rfl, hO, _, hk⟩ := h
  exact ⟨p, c, rfl, own_rdl hO, hO.le.1, hk⟩
theorem New.pre {w0 : World} {xs : List Int} {v : Value} {w' : World} (hk : Keep None w0 w) (h : New w xs v w') : New w0 xs v w' := by
  obtain ⟨p, c, rfl, hO, hf, k⟩ := h
  exact ⟨p, c, rfl, hO, fun i hi => by have := hf i hi; have := hk.size; omega, hk.then0 k⟩
theorem tidyR : ∀ (n : Nat) (w : World) (p : Option Addr) (c : Nat) (cs : List Int), RdL w p n cs → n ≤ 1099511627776 → n ≤ c →
    Calls Try.prog 49 #[.slice p n c] w fun e w' => ∃ v L, e = .returned v ∧ Td (· ∈ cs) L ∧ New w L v w' := by
  intro n
  induction n using Nat.strongRecOn with
  | ind n ih =>
    intro w p c cs h hn hc
    refine (V49_calls p n c w (fun v w' => ∃ L, Td (· ∈ cs) L ∧ New w L v w') ?_).mono fun e w' ⟨v, he, L, hk⟩ => ⟨v, L, he, hk⟩
    unfold V49
    have hl := h.len
    have hnil : ∀ {L : List Int} {w' : World}, Keep None w w' → New w [] (.slice none 0 0) w' := fun k => ⟨none, 0, rfl, Own.nil _ _ _, (fun i ⟨a, h, _⟩ => by cases h), k⟩
    refine pif_of (fun h0 => ?_) fun h0 => ?_
    · have h0 : n = 0 := by simp at h0; omega
      subst h0
      have : cs = [] := List.eq_nil_of_length_eq_zero hl
      subst this
      exact ⟨[], Td.nil (fun x _ (h : x ∈ []) => by cases h), hnil (L := []) (Keep.refl _ _)⟩
    have h0 : n ≠ 0 := by simp at h0; omega
    refine pif_of (fun h1 => ?_) fun h1 => ?_
    · have h1 : n = 1 := by simp at h1; omega
      subst h1
      obtain ⟨x, rfl⟩ : ∃ x, cs = [x] := List.length_eq_one_iff.1 hl
      refine h.ix (i := 0) (by omega) fun a y hy ha => ldI_of ha ?_
      simp at hy; subst hy
      refine cl_of ok35 (formedR x) fun e w1 ⟨he, k1⟩ => ⟨_, he, ?_⟩
      refine pif_of (fun hf => ?_) fun hf => ?_
      · refine (h.keep0 k1).ix (i := 0) (by omega) fun a y hy ha => ldI_of ha ?_
        simp at hy; subst hy
        refine alc_at fun b w2 hb hB k2 => ?_
        refine ⟨[x], ⟨List.pairwise_singleton .., fun y => ?_⟩, some ⟨b, 0, none⟩, 1, rfl, Or.inr ⟨b, _, rfl, hB, Nat.le_refl _, by simp only [maxLen]; omega, rfl, rfl⟩, (fun i ⟨a, h, h'⟩ => by cases h; simp only [] at h'; have := k1.size; omega), k1.then0 k2⟩
        simp only [List.mem_singleton]
        exact ⟨fun e => ⟨e, by rw [e]; exact hf⟩, fun e => e.1⟩
      · refine ⟨[], Td.nil (fun y hy (hm : y ∈ [x]) => ?_), hnil (L := []) k1⟩
        simp only [List.mem_singleton] at hm
        rw [hm, hf] at hy; cases hy
    have h1 : 2 ≤ n := by simp at h1; omega
    have e1 : Int.tdiv (n : Int) 2 = ((n / 2 : Nat) : Int) := by rw [Int.tdiv_eq_ediv_of_nonneg (by omega)]; rfl
    have e2 : IntKind.wrap .i64 (((n / 2 : Nat) : Int)) = ((n / 2 : Nat) : Int) := by rw [IntKind.wrap_i64]; omega
    rw [e1, e2, Int.toNat_natCast, slA_zero, Nat.sub_zero, Nat.sub_zero]
    refine ⟨by omega, by omega, ?_⟩
    refine cl_of ok49 (ih (n / 2) (by omega) w p c _ (RdL.take h (by omega)) (by omega) (by omega)) fun e w1 ⟨v, L, he, hT, hN⟩ => ?_
    obtain ⟨q, d, rfl, hR, hd, k1⟩ := new_rdl hN
    refine ⟨_, _, _, he, by omega, by omega, ?_⟩
    refine cl_of ok49 (ih (n - n / 2) (by omega) w1 _ (c - n / 2) _ ((RdL.drop h (m := n / 2) (by omega) hc).keep0 k1) (by omega) (by omega)) fun e w2 ⟨v2, L2, he, hT2, hN2⟩ => ?_
    obtain ⟨q2, d2, rfl, hR2, hd2, k2⟩ := new_rdl hN2
    refine ⟨_, _, _, he, ?_⟩
    have l1 := hT.len
    have l2 := hT2.len
    refine cl_of ok59 (merged (hR.keep0 k2) hR2 (by omega) (by omega) hT.srt hT2.srt hT.all hT2.all) fun e w3 ⟨v3, L3, he, hs3, hm3, hN3⟩ => ?_
    have hN3' := New.pre (k1.then0 k2) hN3
    obtain ⟨q3, d3, rfl, hR3⟩ := hN3'
    refine ⟨_, _, _, he, L3, ⟨hs3, fun x => ?_⟩, q3, d3, rfl, hR3⟩
    rw [hm3, hT.mem, hT2.mem]
    have : x ∈ cs ↔ x ∈ cs.take (n / 2) ∨ x ∈ cs.drop (n / 2) := by
      rw [← List.mem_append, List.take_append_drop]
    rw [this]
    exact ⟨fun h => h.elim (fun h => ⟨Or.inl h.1, h.2⟩) fun h => ⟨Or.inr h.1, h.2⟩, fun h => h.1.elim (fun h' => Or.inl ⟨h', h.2⟩) fun h' => Or.inr ⟨h', h.2⟩⟩
theorem joinR {q : Option Addr} {m d : Nat} {ds : List Int} (h : RdL w p n cs) (h' : RdL w q m ds) (hn : n ≤ 1099511627776) (hc : n ≤ c) (hm : m ≤ 1099511627776) (hd : m ≤ d) :
    Calls Try.prog 52 #[.slice p n c, .slice q m d] w fun e w' => ∃ v L, e = .returned v ∧ Td (fun x => x ∈ cs ∨ x ∈ ds) L ∧ New w L v w' := by
  refine (V52_calls p n c q m d w (fun v w' => ∃ L, Td (fun x => x ∈ cs ∨ x ∈ ds) L ∧ New w L v w') ?_).mono fun e w' ⟨v, he, L, hk⟩ => ⟨v, L, he, hk⟩
  unfold V52
  refine cl_of ok49 (tidyR n w p c cs h hn hc) fun e w1 ⟨v, L, he, hT, hN⟩ => ?_
  obtain ⟨q1, d1, rfl, hR, hd1, k1⟩ := new_rdl hN
  refine ⟨_, _, _, he, ?_⟩
  refine cl_of ok49 (tidyR m w1 q d ds (h'.keep0 k1) hm hd) fun e w2 ⟨v2, L2, he, hT2, hN2⟩ => ?_
  obtain ⟨q2, d2, rfl, hR2, hd2, k2⟩ := new_rdl hN2
  refine ⟨_, _, _, he, ?_⟩
  have l1 := hT.len
  have l2 := hT2.len
  refine cl_of ok59 (merged (hR.keep0 k2) hR2 (by omega) (by omega) hT.srt hT2.srt hT.all hT2.all) fun e w3 ⟨v3, L3, he, hs3, hm3, hN3⟩ => ?_
  have hN3' := New.pre (k1.then0 k2) hN3
  obtain ⟨q3, d3, rfl, hR3⟩ := hN3'
  refine ⟨_, _, _, he, L3, ⟨hs3, fun x => ?_⟩, q3, d3, rfl, hR3⟩
  rw [hm3, hT.mem, hT2.mem]
  exact ⟨fun h => h.elim (fun h => ⟨Or.inl h.1, h.2⟩) fun h => ⟨Or.inr h.1, h.2⟩, fun h => h.1.elim (fun h' => Or.inl ⟨h', h.2⟩) fun h' => Or.inr ⟨h', h.2⟩⟩
theorem withoutR (l : Int) (h : RdL w p n cs) (hn : n ≤ 1099511627776) (hc : n ≤ c) :
    Calls Try.prog 53 #[.slice p n c, J l] w fun e w' => ∃ v L, e = .returned v ∧ Td (fun x => x ∈ cs ∧ x ≠ l) L ∧ New w L v w' := by
  refine (V53_calls p n c l w (fun v w' => ∃ L, Td (fun x => x ∈ cs ∧ x ≠ l) L ∧ New w L v w') ?_).mono fun e w' ⟨v, he, L, hk⟩ => ⟨v, L, he, hk⟩
  unfold V53
  refine cl_of ok49 (tidyR n w p c cs h hn hc) fun e w1 ⟨v, L, he, hT, hN⟩ => ?_
  obtain ⟨q1, d1, rfl, hR, hd1, k1⟩ := new_rdl hN
  refine ⟨_, _, _, he, ?_⟩
  have ll := hT.len
  refine lp_of (fun s W => ∃ i : Nat, s.2.1 = i ∧ i ≤ L.length ∧ s.1.2.1 ≤ i ∧ Gro w1 W s.1.1 s.1.2.1 s.1.2.2 ((L.take i).filter fun x => decide (x ≠ l))) (fun s _ => (L.length - s.2.1).toNat)
    ⟨0, rfl, Nat.zero_le _, Nat.zero_le _, Gro.nil w1⟩ ?_
  rintro ⟨⟨r, m, d⟩, i', ⟨⟩⟩ w2 ⟨i, rfl, hi, hmi, hG⟩
  simp only [] at hG hmi ⊢
  refine pif_of (fun hlt => ?_) fun hge => ?_
  · have hlt : i < L.length := by simpa using hlt
    refine jn_of ?_
    rw [wrap_nat i (by omega)]
    refine (hR.keep0 hG.keep).ix hlt fun a x hx ha => ldI_of ha ?_
    refine pif_of (fun hne => ?_) fun hne => ?_
    · have hne' : x ≠ l := by simpa using hne
      have sn : (L.take (i + 1)).filter (fun x => decide (x ≠ l)) = (L.take i).filter (fun x => decide (x ≠ l)) ++ [x] := by
        rw [take_snoc hx, List.filter_append, List.filter_cons_of_pos (by simpa using hne')]; rfl
      refine (hR.keep0 hG.keep).ix hlt fun a y hy ha => ldI_of ha ?_
      rw [hx] at hy; injection hy with hy; subst hy
      exact hG.app (by omega) fun p' c' w' hG' => ⟨⟨i + 1, rfl, hlt, by show m + 1 ≤ i + 1; omega, by rw [sn]; exact hG'⟩, by omega⟩
    · have hne' : x = l := by simpa using hne
      have sn : (L.take (i + 1)).filter (fun x => decide (x ≠ l)) = (L.take i).filter (fun x => decide (x ≠ l)) := by
        rw [take_snoc hx, List.filter_append, List.filter_cons_of_neg (by simpa using hne')]; simp
      exact ⟨⟨i + 1, rfl, hlt, by show m ≤ i + 1; omega, by rw [sn]; exact hG⟩, by omega⟩
  · have hge : i = L.length := by simp at hge; omega
    subst hge
    rw [List.take_length] at hG
    refine ⟨_, ⟨?_, fun x => ?_⟩, New.pre k1 hG.done⟩
    · exact hT.srt.sublist (List.filter_sublist ..)
    · rw [List.mem_filter, hT.mem, decide_eq_true_eq]
      exact ⟨fun ⟨⟨a, b⟩, c⟩ => ⟨⟨a, c⟩, b⟩, fun ⟨⟨a, c⟩, b⟩ => ⟨⟨a, b⟩, c⟩⟩
end
end Go.Proofs.Ytlbpllpomdjooaa.Lits
