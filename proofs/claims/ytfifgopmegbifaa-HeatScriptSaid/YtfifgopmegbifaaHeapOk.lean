/- The heap's order: what up, down and again leave is a heap of the same items. -/
import Derived.Test.YtfifgopmegbifaaBump
import Derived.Test.YtfifgopmegbifaaFl
import Derived.Test.YtfifgopmegbifaaSort4
set_option linter.unusedVariables false
set_option linter.unusedSimpArgs false
set_option maxRecDepth 100000
namespace Go.Proofs.Ytfifgopmegbifaa.Heat
open Go Go.Proofs.Ytfifgopmegbifaa.Vc Go.Proofs.Ytfifgopmegbifaa.T
open Go.Proofs.Ytfifgopmegbifaa.Sort (g swp g_swp swp_len swp_perm g_some g_mem g_set)

/-- an order, from the first on -/
structure Od (bf : Int → Int → Bool) (D : Int → Prop) : Prop where
  asym : ∀ x y, D x → D y → bf x y = true → bf y x = false
  trans : ∀ x y z, D x → D y → D z → bf y x = false → bf z y = false → bf z x = false
def HpB (bf : Int → Int → Bool) (L : List Int) : Prop := ∀ k, 1 ≤ k → k < L.length → bf (g L k) (g L ((k - 1) / 2)) = false
section
variable {bf : Int → Int → Bool} {D : Int → Prop}
theorem Od.irr (o : Od bf D) {x : Int} (h : D x) : bf x x = false := by
  cases hq : bf x x with
  | true => rw [← hq]; exact o.asym x x h h hq
  | false => rfl
theorem swp_of {L : List Int} {a p : Nat} {x : Int} (ha : a < L.length) (hp : p < L.length) (hne : a ≠ p) : swp (L.set a x) a p = (L.set a (g L p)).set p x := by
  have e1 : g (L.set a x) a = x := by rw [g_set ha, if_pos rfl]
  have e2 : g (L.set a x) p = g L p := by rw [g_set ha, if_neg (Ne.symm hne)]
  unfold swp
  rw [e1, e2, List.set_comm _ _ hne, List.set_set, List.set_comm _ _ (Ne.symm hne)]
theorem up_ok (o : Od bf D) : ∀ (a : Nat) (L : List Int) (x : Int), a < L.length → (∀ y ∈ L.set a x, D y) →
    (∀ k, 1 ≤ k → k < L.length → k ≠ a → bf (g (L.set a x) k) (g (L.set a x) ((k - 1) / 2)) = false) →
    (1 ≤ a → ∀ k, 1 ≤ k → k < L.length → (k - 1) / 2 = a → bf (g (L.set a x) k) (g (L.set a x) ((a - 1) / 2)) = false) →
    HpB bf (upL bf x L a) ∧ (upL bf x L a).Perm (L.set a x) := by
  intro a
  induction a using Nat.strongRecOn with
  | ind a ih =>
    intro L x ha hD h1 h2
    rw [upL]
    by_cases h0 : a = 0
    · rw [dif_pos h0]
      exact ⟨fun k k1 k2 => h1 k k1 (by simpa using k2) (by omega), List.Perm.refl _⟩
    · rw [dif_neg h0]
      have hp : (a - 1) / 2 < L.length := by omega
      have hne : a ≠ (a - 1) / 2 := by omega
      have ep : L.getD ((a - 1) / 2) 0 = g L ((a - 1) / 2) := rfl
      rw [ep]
      have ex : g (L.set a x) a = x := by rw [g_set ha, if_pos rfl]
      have ey : g (L.set a x) ((a - 1) / 2) = g L ((a - 1) / 2) := by rw [g_set ha, if_neg (Ne.symm hne)]
      have sM := swp_of (x := x) ha hp hne
      have lM : (L.set a x).length = L.length := by simp
      have gD : ∀ {k}, k < L.length → D (g (L.set a x) k) := fun hk => hD _ (g_mem (by omega))
      by_cases hb : bf x (g L ((a - 1) / 2)) = true
      · rw [if_pos hb]
        generalize hpp : (a - 1) / 2 = p at *
        have hps := swp_perm (z := L.set a x) (i := a) (j := p) (by omega) (by omega)
        have hvw : ∀ k, g ((L.set a (g L p)).set p x) k = if k = a then g (L.set a x) p else if k = p then g (L.set a x) a else g (L.set a x) k := fun k => by
          rw [← sM, g_swp (by omega) (by omega)]
        have hres := ih p (by omega) (L.set a (g L p)) x (by simpa using hp) (fun y hy => by
            rw [← sM] at hy; exact hD y (hps.mem_iff.1 hy)) (fun k k1 k2 k3 => ?_) (fun p1 k k1 k2 k3 => ?_)
        · refine ⟨hres.1, hres.2.trans ?_⟩
          rw [← sM]; exact hps
        · have k2 : k < L.length := by simpa using k2
          rw [hvw, hvw]
          by_cases hka : k = a
          · subst hka
            rw [if_pos rfl, hpp, if_neg (Ne.symm hne), if_pos rfl]
            exact o.asym _ _ (gD ha) (gD hp) (by rw [ex, ey]; exact hb)
          · rw [if_neg hka, if_neg k3]
            by_cases hpa : (k - 1) / 2 = a
            · rw [if_pos hpa]; exact h2 (by omega) k k1 k2 hpa
            · rw [if_neg hpa]
              by_cases hpp2 : (k - 1) / 2 = p
              · rw [if_pos hpp2]
                have := h1 k k1 k2 hka
                rw [hpp2] at this
                refine o.trans _ _ _ (gD ha) (gD hp) (gD k2) ?_ this
                exact o.asym _ _ (gD ha) (gD hp) (by rw [ex, ey]; exact hb)
              · rw [if_neg hpp2]; exact h1 k k1 k2 hka
        · have k2 : k < L.length := by simpa using k2
          rw [hvw, hvw, if_neg (show ¬ (p - 1) / 2 = a by omega), if_neg (show ¬ (p - 1) / 2 = p by omega)]
          have hpg := h1 p p1 hp (by omega)
          by_cases hka : k = a
          · rw [if_pos hka]; exact hpg
          · rw [if_neg hka, if_neg (show ¬ k = p by omega)]
            have := h1 k k1 k2 hka
            rw [k3] at this
            exact o.trans _ _ _ (gD (by omega)) (gD hp) (gD k2) hpg this
      · rw [if_neg hb]
        refine ⟨fun k k1 k2 => ?_, List.Perm.refl _⟩
        have k2 : k < L.length := by simpa using k2
        by_cases hka : k = a
        · subst hka
          rw [ex, ey]; simpa using hb
        · exact h1 k k1 k2 hka
theorem lower_ahead (o : Od bf D) {L : List Int} {a : Nat} (h : 2 * a + 1 < L.length) (hD : ∀ k, k < L.length → k ≠ a → D (g L k)) :
    ∀ k, 1 ≤ k → k < L.length → (k - 1) / 2 = a → bf (g L k) (g L (lower bf L a)) = false := by
  intro k k1 k2 k3
  have e1 : L.getD (2 * a + 2) 0 = g L (2 * a + 2) := rfl
  have e2 : L.getD (2 * a + 1) 0 = g L (2 * a + 1) := rfl
  unfold lower
  rw [e1, e2]
  rcases (show k = 2 * a + 1 ∨ k = 2 * a + 2 by omega) with rfl | rfl
  · split
    · rename_i hc; exact o.asym _ _ (hD _ (by omega) (by omega)) (hD _ (by omega) (by omega)) hc.2
    · exact o.irr (hD _ (by omega) (by omega))
  · split
    · exact o.irr (hD _ (by omega) (by omega))
    · rename_i hc
      cases hq : bf (g L (2 * a + 2)) (g L (2 * a + 1)) with
      | true => exact absurd ⟨k2, hq⟩ hc
      | false => rfl
theorem down_ok (o : Od bf D) (lo : Nat) : ∀ (N a : Nat) (L : List Int) (x : Int), L.length - a = N → a < L.length → (∀ y ∈ L.set a x, D y) →
    (∀ k, 1 ≤ k → k < L.length → lo ≤ (k - 1) / 2 → (k - 1) / 2 ≠ a → bf (g (L.set a x) k) (g (L.set a x) ((k - 1) / 2)) = false) →
    (a = lo ∨ (1 ≤ a ∧ lo ≤ (a - 1) / 2 ∧ ∀ k, 1 ≤ k → k < L.length → (k - 1) / 2 = a → bf (g (L.set a x) k) (g (L.set a x) ((a - 1) / 2)) = false)) → lo ≤ a →
    (∀ k, 1 ≤ k → k < L.length → lo ≤ (k - 1) / 2 → bf (g (downL bf x L a) k) (g (downL bf x L a) ((k - 1) / 2)) = false) ∧ (downL bf x L a).Perm (L.set a x) := by
  intro N
  induction N using Nat.strongRecOn with
  | ind N ih =>
    intro a L x hN ha hD h1 h2 hlo
    rw [downL]
    have lM : (L.set a x).length = L.length := by simp
    have gD : ∀ {k}, k < L.length → D (g (L.set a x) k) := fun hk => hD _ (g_mem (by omega))
    have ex : g (L.set a x) a = x := by rw [g_set ha, if_pos rfl]
    by_cases hlt : 2 * a + 1 < L.length
    · rw [dif_pos hlt]
      have gL : ∀ {k}, k ≠ a → g (L.set a x) k = g L k := fun hk => by rw [g_set ha, if_neg hk]
      have hlow := lower_or bf L a
      have hah := lower_ahead o hlt fun k k1 k2 => by rw [← gL k2]; exact gD k1
      have el : L.getD (lower bf L a) 0 = g L (lower bf L a) := rfl
      rw [el]
      generalize hm : lower bf L a = m at *
      have hml : m < L.length := by omega
      have hma : a ≠ m := by omega
      have hmp : (m - 1) / 2 = a := by omega
      by_cases hb : bf (g L m) x = true
      · rw [if_pos hb]
        have sM := swp_of (x := x) ha hml hma
        have hps := swp_perm (z := L.set a x) (i := a) (j := m) (by omega) (by omega)
        have hvw : ∀ k, g ((L.set a (g L m)).set m x) k = if k = a then g (L.set a x) m else if k = m then g (L.set a x) a else g (L.set a x) k := fun k => by
          rw [← sM, g_swp (by omega) (by omega)]
        have hres := ih (L.length - m) (by omega) m (L.set a (g L m)) x (by simp) (by simpa using hml) (fun y hy => by
            rw [← sM] at hy; exact hD y (hps.mem_iff.1 hy)) (fun k k1 k2 k3 k4 => ?_) (Or.inr ⟨by omega, by omega, fun k k1 k2 k3 => ?_⟩) (by omega)
        · refine ⟨fun k k1 k2 k3 => hres.1 k k1 (by simpa using k2) k3, hres.2.trans ?_⟩
          rw [← sM]; exact hps
        · have k2 : k < L.length := by simpa using k2
          rw [hvw, hvw, if_neg k4]
          by_cases hka : (k - 1) / 2 = a
          · rw [if_pos hka, if_neg (show ¬ k = a by omega)]
            by_cases hkm : k = m
            · rw [if_pos hkm, ex, gL (Ne.symm hma)]
              exact o.asym _ _ (by rw [← gL (Ne.symm hma)]; exact gD hml) (by rw [← ex]; exact gD ha) hb
            · rw [if_neg hkm, gL (by omega), gL (Ne.symm hma)]
              exact hah k k1 k2 hka
          · rw [if_neg hka]
            by_cases hk : k = a
            · rw [if_pos hk]
              subst hk
              rcases h2 with h2 | ⟨a1, a2, a3⟩
              · omega
              · exact a3 m (by omega) hml hmp
            · rw [if_neg hk, if_neg (show ¬ k = m by omega)]; exact h1 k k1 k2 k3 hka
        · have k2 : k < L.length := by simpa using k2
          rw [hvw, hvw, hmp, if_pos rfl, if_neg (show ¬ k = a by omega), if_neg (show ¬ k = m by omega)]
          have := h1 k k1 k2 (by omega) (by omega)
          rwa [k3] at this
      · rw [if_neg hb]
        refine ⟨fun k k1 k2 k3 => ?_, List.Perm.refl _⟩
        by_cases hka : (k - 1) / 2 = a
        · rw [hka, ex, gL (by omega)]
          have hb' : bf (g L m) x = false := by simpa using hb
          refine o.trans _ _ _ (by rw [← ex]; exact gD ha) (by rw [← gL (Ne.symm hma)]; exact gD hml) (by rw [← gL (show k ≠ a by omega)]; exact gD k2) hb' (hah k k1 k2 hka)
        · exact h1 k k1 k2 k3 hka
    · rw [dif_neg hlt]
      exact ⟨fun k k1 k2 k3 => h1 k k1 k2 k3 (by omega), List.Perm.refl _⟩
theorem set_same {L : List Int} {a : Nat} (ha : a < L.length) : L.set a (g L a) = L := by
  unfold g
  rw [List.getD_eq_getElem?_getD, List.getElem?_eq_getElem ha]
  exact List.set_getElem_self ha
theorem again_ok (o : Od bf D) : ∀ (k : Nat) (L : List Int), k ≤ L.length → (∀ y ∈ L, D y) → (∀ j, 1 ≤ j → j < L.length → k ≤ (j - 1) / 2 → bf (g L j) (g L ((j - 1) / 2)) = false) →
    HpB bf (againL bf k L) ∧ (againL bf k L).Perm L := by
  intro k
  induction k with
  | zero => intro L _ _ h; exact ⟨fun j j1 j2 => h j j1 j2 (Nat.zero_le _), List.Perm.refl _⟩
  | succ k ih =>
    intro L hk hD h
    rw [againL]
    have ss := set_same (L := L) (a := k) (by omega)
    have e : L.getD k 0 = g L k := rfl
    rw [e]
    have hd := down_ok o k _ k L (g L k) rfl (by omega) (by rw [ss]; exact hD) (fun j j1 j2 j3 j4 => by rw [ss]; exact h j j1 j2 (by omega)) (Or.inl rfl) (Nat.le_refl _)
    rw [ss] at hd
    have hl : (downL bf (g L k) L k).length = L.length := downL_len _ _ _ _ _ rfl
    have hr := ih (downL bf (g L k) L k) (by omega) (fun y hy => hD y (hd.2.mem_iff.1 hy)) (fun j j1 j2 j3 => hd.1 j j1 (by omega) j3)
    exact ⟨hr.1, hr.2.trans hd.2⟩
theorem root_first (o : Od bf D) {L : List Int} (hD : ∀ y ∈ L, D y) (h : HpB bf L) : ∀ k, k < L.length → bf (g L k) (g L 0) = false := by
  intro k
  induction k using Nat.strongRecOn with
  | ind k ih =>
    intro hk
    by_cases h0 : k = 0
    · subst h0; exact o.irr (hD _ (g_mem hk))
    · exact o.trans _ _ _ (hD _ (g_mem (by omega))) (hD _ (g_mem (k := (k - 1) / 2) (by omega))) (hD _ (g_mem hk)) (ih ((k - 1) / 2) (by omega) (by omega)) (h k (by omega) hk)
end

/-- variables by scores that are not below nought -/
theorem bfw_iff {n : Nat} {sc : List Nat} (hn : ∀ x ∈ sc, x ≤ Fl.Inf) (hl : sc.length = n) {v u : Int} (hv : 1 ≤ v ∧ v ≤ n) (hu : 1 ≤ u ∧ u ≤ n) :
    bfw sc v u = true ↔ (sc.getD (u - 1).toNat 0 < sc.getD (v - 1).toNat 0 ∨ (sc.getD (u - 1).toNat 0 = sc.getD (v - 1).toNat 0 ∧ v < u)) := by
  have rd : ∀ {v : Int}, 1 ≤ v ∧ v ≤ n → sc.getD (v - 1).toNat 0 ≤ Fl.Inf := fun h => by
    refine hn _ ?_
    rw [List.getD_eq_getElem?_getD, List.getElem?_eq_getElem (by omega)]
    exact List.getElem_mem _
  unfold bfw
  have ho := Fl.ord (rd hv) (rd hu)
  have ho' : (FloatKind.format .f64).order (sc.getD (v - 1).toNat 0) (sc.getD (u - 1).toNat 0) = some (compare (sc.getD (v - 1).toNat 0) (sc.getD (u - 1).toNat 0)) := ho
  rw [ho']
  generalize sc.getD (v - 1).toNat 0 = a
  generalize sc.getD (u - 1).toNat 0 = b
  rcases Nat.lt_trichotomy a b with h | h | h
  · rw [Nat.compare_eq_lt.2 h]
    have n1 : ¬ b < a := by omega
    have n2 : ¬ b = a := by omega
    simp [n1, n2]
  · subst h
    rw [Nat.compare_eq_eq.2 rfl]
    simp
  · rw [Nat.compare_eq_gt.2 h]
    simp [h]
theorem bfw_od {n : Nat} {sc : List Nat} (hn : ∀ x ∈ sc, x ≤ Fl.Inf) (hl : sc.length = n) : Od (bfw sc) (fun v => 1 ≤ v ∧ v ≤ n) := by
  have no : ∀ {b : Bool} {P : Prop}, (b = true ↔ P) → (b = false ↔ ¬ P) := fun {b P} h => by
    constructor
    · intro hb hp; rw [h.2 hp] at hb; cases hb
    · intro hp
      cases hb : b with
      | true => exact absurd (h.1 hb) hp
      | false => rfl
  refine ⟨fun x y hx hy h => ?_, fun x y z hx hy hz h1 h2 => ?_⟩
  · rw [no (bfw_iff hn hl hy hx)]
    have := (bfw_iff hn hl hx hy).1 h
    omega
  · rw [no (bfw_iff hn hl hz hx)]
    have h1 := (no (bfw_iff hn hl hy hx)).1 h1
    have h2 := (no (bfw_iff hn hl hz hy)).1 h2
    omega
/-- two that are not ahead of one another are one -/
theorem bfw_eq {n : Nat} {sc : List Nat} (hn : ∀ x ∈ sc, x ≤ Fl.Inf) (hl : sc.length = n) {v u : Int} (hv : 1 ≤ v ∧ v ≤ n) (hu : 1 ≤ u ∧ u ≤ n) (h1 : bfw sc v u = false) (h2 : bfw sc u v = false) : v = u := by
  apply Classical.byContradiction
  intro hne
  have n1 : ¬ _ := fun h => by rw [(bfw_iff hn hl hv hu).2 h] at h1; cases h1
  have n2 : ¬ _ := fun h => by rw [(bfw_iff hn hl hu hv).2 h] at h2; cases h2
  omega
end Go.Proofs.Ytfifgopmegbifaa.Heat
