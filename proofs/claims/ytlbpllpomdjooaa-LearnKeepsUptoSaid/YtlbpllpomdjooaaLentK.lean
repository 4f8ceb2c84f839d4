/- Lists with marks behind them, and that they are so still; lists written over. -/
import Derived.Test.YtlbpllpomdjooaaLearnD
import Derived.Test.YtlbpllpomdjooaaTK
set_option linter.unusedVariables false
set_option linter.unusedSimpArgs false
set_option linter.unusedSectionVars false
set_option maxRecDepth 100000
namespace Go.Proofs.Ytlbpllpomdjooaa.Learn
open Go Go.Proofs.Ytlbpllpomdjooaa.Vc Go.Proofs.Ytlbpllpomdjooaa.T
open Go.Proofs.Ytlbpllpomdjooaa.Apart (RdL own_rdl wrap_nat getE own_len copy same take_snoc Sl sv New Gro mks mks_succ mks_at mks_len mkW)

section
variable {w : World} {p : Option Addr} {n c : Nat} {cs : List Int}
theorem lent27 (h : RdL w p n cs) (hn : n ≤ 1099511627776) : Calls Try.prog 27 #[.slice p n c] w fun e w' => ∃ v, e = .returned v ∧ New w (cs ++ mks 0 64) v w' := by
  refine V27_calls p n c w (New w (cs ++ mks 0 64)) ?_
  unfold V27
  have hlen := h.len
  refine lp_of (fun s w1 => ∃ i : Nat, s.2.1 = i ∧ i ≤ n ∧ s.1.2.1 = i ∧ Gro w w1 s.1.1 s.1.2.1 s.1.2.2 (cs.take i)) (fun s _ => (n - s.2.1).toNat) ⟨0, rfl, Nat.zero_le _, rfl, Gro.nil w⟩ ?_
  rintro ⟨⟨q, m, d⟩, i', ⟨⟩⟩ w1 ⟨i, rfl, hi, hm, hG⟩
  simp only [] at hm hG ⊢
  subst hm
  refine pif_of (fun hlt => ?_) fun hge => ?_
  · have hlt : m < n := by simpa using hlt
    refine (h.keep0 hG.keep).ix hlt fun a x hx ha => ldI_of ha ?_
    rw [wrap_nat m (by omega)]
    exact hG.app (by omega) fun p' c' w' hG' => ⟨⟨m + 1, rfl, hlt, rfl, by rw [take_snoc hx]; exact hG'⟩, by omega⟩
  · have hge : m = n := by simp at hge; omega
    subst hge
    rw [← hlen, List.take_length] at hG
    refine lp_of (fun s w1 => ∃ i : Nat, s.2.1 = i ∧ i ≤ 64 ∧ s.1.2.1 = m + i ∧ Gro w w1 s.1.1 s.1.2.1 s.1.2.2 (cs ++ mks 0 i)) (fun s _ => (64 - s.2.1).toNat) ⟨0, rfl, Nat.zero_le _, rfl, by simpa [mks, hlen] using hG⟩ ?_
    rintro ⟨⟨q2, m2, d2⟩, i', ⟨⟩⟩ w2 ⟨i, rfl, hi2, hm2, hG2⟩
    simp only [] at hm2 hG2 ⊢
    refine pif_of (fun hlt => ?_) fun hge => ?_
    · have hlt : i < 64 := by simp at hlt; omega
      refine cl_of ok54 (Apart.mark _ _ _) fun e w3 ⟨he, hw⟩ => ⟨_, he, ?_⟩
      subst hw
      rw [wrap_nat i (by omega)]
      exact hG2.app (by omega) fun p' c' w' hG' => ⟨⟨i + 1, rfl, hlt, by omega, by rw [mks_succ, ← List.append_assoc]; exact hG'⟩, by omega⟩
    · have hge : i = 64 := by simp at hge; omega
      subst hge
      exact hG2.done
theorem kept29 {q : Option Addr} {d : Nat} (h : RdL w p n cs) (hq : RdL w q (n + 64) (cs ++ mks 0 64)) (hn : n ≤ 1099511627776) :
    Calls Try.prog 29 #[.slice q (n + 64) d, .slice p n c] w fun e w' => e = .returned (.bool true) ∧ Keep None w w' := by
  refine (V29_calls q (n + 64) d p n c w (fun v w' => v = .bool true ∧ Keep None w w') ?_).mono fun e w' ⟨v, he, hv, hk⟩ => ⟨by rw [he, hv], hk⟩
  unfold V29
  have hlen := h.len
  have e1 : IntKind.wrap .i64 ((n : Int) + 64) = ((n + 64 : Nat) : Int) := by rw [IntKind.wrap_i64]; omega
  rw [e1]
  refine pif_f (by simp) ?_
  refine lp_of (fun s w1 => ∃ i : Nat, s.1 = i ∧ i ≤ n ∧ Keep None w w1) (fun s _ => (n - s.1).toNat) ⟨0, rfl, Nat.zero_le _, Keep.refl _ _⟩ ?_
  rintro ⟨i', ⟨⟩⟩ w1 ⟨i, rfl, hi, k1⟩
  simp only []
  refine pif_of (fun hlt => ?_) fun hge => ?_
  · have hlt : i < n := by simpa using hlt
    have kd : Keep None w w1.drew := k1.drew
    refine (hq.keep0 kd).ix (by omega) fun a x hx ha => ldI_of ha ((h.keep0 kd).ix hlt fun a2 x2 hx2 ha2 => ldI_of ha2 ?_)
    rw [List.getElem?_append_left (by omega), hx2] at hx
    injection hx with hx
    subst hx
    rw [wrap_nat i (by omega)]
    exact pif_f (by simp) ⟨⟨i + 1, rfl, hlt, kd⟩, by omega⟩
  · refine lp_of (fun s w1 => ∃ i : Nat, s.1 = i ∧ i ≤ 64 ∧ Keep None w w1) (fun s _ => (64 - s.1).toNat) ⟨0, rfl, Nat.zero_le _, k1⟩ ?_
    rintro ⟨i', ⟨⟩⟩ w2 ⟨i, rfl, hi, k2⟩
    simp only []
    refine pif_of (fun hlt => ?_) fun hge => ⟨by first | rfl | trivial, k2⟩
    have hlt : i < 64 := by simp at hlt; omega
    have kd : Keep None w w2.drew := k2.drew
    have e2 : IntKind.wrap .i64 ((n : Int) + (i : Int)) = ((n + i : Nat) : Int) := by rw [IntKind.wrap_i64]; omega
    rw [e2]
    refine (hq.keep0 kd).ix (by omega) fun a x hx ha => ldI_of ha ?_
    rw [List.getElem?_append_right (by omega), show n + i - cs.length = i by omega, mks_at hlt] at hx
    injection hx with hx
    subst hx
    refine cl_of ok54 (Apart.mark _ _ _) fun e w3 ⟨he, hw⟩ => ⟨_, he, ldI_of (by rw [hw]; exact ha) rfl, ?_⟩
    subst hw
    rw [wrap_nat i (by omega)]
    exact pif_f (by simp) ⟨⟨i + 1, rfl, hlt, kd⟩, by omega⟩
/-- what Over writes -/
def ovI (i : Nat) : Int := IntKind.wrap .i64 (1 - (Int.tmod (i : Int) 3))
def Ovd (w : World) (b m : Nat) (L : Nat) (v : Value) (w' : World) : Prop := v = .tuple #[] ∧ Keep (One b) w w' ∧ ∃ cs', cs'.length = L ∧ Blk w' b cs' 3 ∧ ∀ i, i < m → cs'[i]? = some (I (ovI i))
theorem over31 {b m c : Nat} {vs : List Value} (h : Blk w b vs 3) (hm : m ≤ vs.length) (hb : m ≤ 1099511627776) :
    Calls Try.prog 31 #[.slice (some ⟨b, 0, none⟩) m c] w fun e w' => ∃ v, e = .returned v ∧ Ovd w b m vs.length v w' := by
  refine V31_calls (some ⟨b, 0, none⟩) m c w (Ovd w b m vs.length) ?_
  unfold V31
  refine lp_of (fun s w1 => ∃ (i : Nat) (cs' : List Value), s.1 = (i : Int) ∧ i ≤ m ∧ cs'.length = vs.length ∧ Blk w1 b cs' 3 ∧ Keep (One b) w w1 ∧ ∀ j, j < i → cs'[j]? = some (I (ovI j))) (fun s _ => (m - s.1).toNat)
    ⟨0, vs, rfl, Nat.zero_le _, rfl, h, Keep.refl _ _, fun j hj => by omega⟩ ?_
  rintro ⟨i', ⟨⟩⟩ w1 ⟨i, cs', rfl, hi, hl, hB, k1, hall⟩
  simp only []
  refine pif_of (fun hlt => ?_) fun hge => ?_
  · have hlt : i < m := by simpa using hlt
    rw [wrap_nat i (by omega)]
    refine ixA_of1 (by omega) (by omega) ?_
    rw [add_mk, Nat.add_zero, Int.toNat_natCast]
    refine st_of hB (by omega) rfl fun w2 hB2 k2 _ => ⟨⟨i + 1, _, rfl, hlt, by rw [List.length_set]; exact hl, hB2, k1.thenS k2 rfl, fun j hj => ?_⟩, by omega⟩
    by_cases hji : j = i
    · subst hji
      rw [List.getElem?_set_self (by omega)]; rfl
    · rw [List.getElem?_set_ne (fun e => hji e.symm)]; exact hall j (by omega)
  · have hge : i = m := by simp at hge; omega
    subst hge
    exact ⟨rfl, k1, cs', hl, hB, hall⟩
end
theorem slA_own {w : World} {e : TypeId} {sz n c : Nat} {p : Option Addr} {xs : List Value} (h : Own w e sz p n c xs) : slA p c 0 sz = p := by
  unfold slA
  split
  · rfl
  · rcases h with ⟨rfl, _⟩ | ⟨b, cs, rfl, _⟩
    · rfl
    · show some (Addr.add _ _) = _
      rw [add_mk]; simp
end Go.Proofs.Ytlbpllpomdjooaa.Learn
