/- Lent, Kept and CopyInts: a list with marks behind it; that it is so still; a copy. -/
import Derived.Test.YtioaaeianjgaoaaApart3
set_option linter.unusedVariables false
set_option linter.unusedSimpArgs false
set_option maxRecDepth 100000
namespace Go.Proofs.Ytioaaeianjgaoaa.Apart
open Go Go.Proofs.Ytioaaeianjgaoaa.Vc Go.Proofs.Ytioaaeianjgaoaa.T

/-- a list of ints wherever it lies, to be read -/
structure RdL (w : World) (p : Option Addr) (n : Nat) (cs : List Int) : Prop where
  len : cs.length = n
  cell : ∀ (i : Nat) (x : Int), cs[i]? = some x → ∃ a, p = some a ∧ w.cell? (a.add i) = some (J x)
theorem RdL.keep {S : Nat → Prop} {w w' : World} {p : Option Addr} {n : Nat} {cs : List Int} (h : RdL w p n cs) (hk : Keep S w w') (hs : ∀ i, ob p i → ¬ S i) : RdL w' p n cs :=
  ⟨h.len, fun i x hx => by
    obtain ⟨a, e, hc⟩ := h.cell i x hx
    refine ⟨a, e, hk.cell hc fun h => hs _ ⟨a, e, rfl⟩ ?_⟩
    have : (a.add i).block = a.block := by unfold Addr.add; split <;> rfl
    rwa [this] at h⟩
theorem RdL.keep0 {w w' : World} {p : Option Addr} {n : Nat} {cs : List Int} (h : RdL w p n cs) (hk : Keep None w w') : RdL w' p n cs := h.keep hk fun _ _ h => h
theorem RdL.ix {w : World} {p : Option Addr} {n : Nat} {cs : List Int} {i : Nat} {K : Addr → Prop} (h : RdL w p n cs) (h1 : i < n) (hk : ∀ a x, cs[i]? = some x → w.cell? a = some (J x) → K a) : ixA p n (i : Int) 1 K := by
  have hl := h.len
  obtain ⟨x, hx⟩ := getE (show i < cs.length by omega)
  obtain ⟨a, rfl, hc⟩ := h.cell i x hx
  refine ⟨by omega, by omega, ?_⟩
  show K _
  rw [Nat.mul_one, Int.toNat_natCast]
  exact hk _ x hx hc
theorem own_rdl {w : World} {p : Option Addr} {n c : Nat} {xs : List Int} (h : Own w 3 1 p n c (xs.map J)) : RdL w p n xs := by
  have hl := own_len h
  refine ⟨hl, fun i x hx => ?_⟩
  have hi := (List.getElem?_eq_some_iff.1 hx).1
  rcases h with ⟨_, rfl, _, _⟩ | ⟨b, cs, rfl, hB, h1, h2, h3, h4⟩
  · omega
  · refine ⟨_, rfl, ?_⟩
    rw [add_mk, Nat.zero_add, hB.cell]
    have : (cs.take (n * 1))[i]? = some (J x) := by rw [h4, List.getElem?_map, hx]; rfl
    rw [List.getElem?_take, if_pos (by omega)] at this
    exact this
theorem take_snoc {cs : List Int} {i : Nat} {x : Int} (hx : cs[i]? = some x) : cs.take (i + 1) = cs.take i ++ [x] := by
  rw [List.take_add_one, hx]; rfl

/-- a fresh list -/
def New (w : World) (xs : List Int) (v : Value) (w' : World) : Prop := ∃ p c, v = .slice p xs.length c ∧ Own w' 3 1 p xs.length c (xs.map J) ∧ (∀ i, ob p i → w.heap.size ≤ i) ∧ Keep None w w'
/-- a list of the call's own that grows -/
structure Gro (w0 w : World) (p : Option Addr) (m c : Nat) (xs : List Int) : Prop where
  own : Own w 3 1 p m c (xs.map J)
  new : ∀ i, ob p i → w0.heap.size ≤ i
  keep : Keep None w0 w
theorem Gro.nil (w : World) : Gro w w none 0 0 [] := ⟨Own.nil _ _ _, (fun i ⟨a, h, _⟩ => by cases h), Keep.refl _ _⟩
theorem Gro.len {w0 w : World} {p : Option Addr} {m c : Nat} {xs : List Int} (h : Gro w0 w p m c xs) : xs.length = m := own_len h.own
theorem Gro.keep0 {w0 w w1 : World} {p : Option Addr} {m c : Nat} {xs : List Int} (h : Gro w0 w p m c xs) (hk : Keep None w w1) : Gro w0 w1 p m c xs := ⟨h.own.keep0 hk, h.new, h.keep.then0 hk⟩
theorem Gro.app {w0 w : World} {p : Option Addr} {m c : Nat} {xs : List Int} {v : Int} {K : Option Addr → Nat → Nat → World → Prop} (h : Gro w0 w p m c xs) (hs : m < 2199023255552)
    (hk : ∀ p' c' w', Gro w0 w' p' (m + 1) c' (xs ++ [v]) → K p' (m + 1) c' w') :
    alc w [J v] 3 fun b w7 => ∃ (p' : Option Addr) (n' c' : Nat), ∃ w' : World, (Builtin.append_ #[26, 26] 26 #[.slice p m c, .slice (some ⟨b, 0, none⟩) 1 1]).run Try.prog w7 = .ok (.slice p' n' c') w' ∧ K p' n' c' w' := by
  refine app1 (g := (p, m, c)) h.own hs fun g' w' e1 hO hd => ?_
  simp only [] at e1 hd
  rw [e1] at hO ⊢
  refine hk g'.1 g'.2.2 w' ⟨hO, fun i hi => ?_, ?_⟩
  · rcases hd with ⟨e, _, _⟩ | ⟨e, _⟩
    · rw [e] at hi; exact h.new i hi
    · have := e i hi; have := h.keep.size; omega
  · rcases hd with ⟨_, _, k⟩ | ⟨_, k⟩
    · exact h.keep.trans k fun i hi hh => by have := h.new i hh; omega
    · exact h.keep.then0 k
theorem Gro.done {w0 w : World} {p : Option Addr} {m c : Nat} {xs : List Int} (h : Gro w0 w p m c xs) : New w0 xs (.slice p m c) w := by
  have hl := h.len
  subst hl
  exact ⟨p, c, rfl, h.own, h.new, h.keep⟩

section
variable {w : World} {p : Option Addr} {n c : Nat} {cs : List Int}
theorem copy (h : RdL w p n cs) (hn : n ≤ 1099511627776) : Calls Try.prog 46 #[.slice p n c] w fun e w' => ∃ v, e = .returned v ∧ New w cs v w' := by
  refine V46_calls p n c w (New w cs) ?_
  unfold V46
  have hlen := h.len
  refine lp_of (fun s w1 => ∃ i : Nat, s.2.1 = i ∧ i ≤ n ∧ s.1.2.1 = i ∧ Gro w w1 s.1.1 s.1.2.1 s.1.2.2 (cs.take i)) (fun s _ => (n - s.2.1).toNat) ⟨0, rfl, Nat.zero_le _, rfl, Gro.nil w⟩ ?_
  rintro ⟨⟨q, m, d⟩, i', ⟨⟩⟩ w1 ⟨i, rfl, hi, hm, hG⟩
  simp only [] at hm hG ⊢
  subst hm
  refine pif_of (fun hlt => ?_) fun hge => ?_
  · have hlt : m < n := by simpa using hlt
    refine (h.keep0 hG.keep).ix hlt fun a x hx ha => ldI_of ha ?_
    rw [wrap_nat m (by omega)]
    exact hG.app (by omega) fun p' c' w' hG' => ⟨⟨m + 1, rfl, hlt, rfl, by rw [take_snoc hx]; exact hG'⟩, by omega⟩
  · have hge : m = n := by simp at hge; omega
    subst hge
    rw [← hlen, List.take_length] at hG
    rw [← hlen]
    exact hG.done
theorem lent (h : RdL w p n cs) (hn : n ≤ 1099511627776) : Calls Try.prog 43 #[.slice p n c] w fun e w' => ∃ v, e = .returned v ∧ New w (cs ++ mks 0 64) v w' := by
  refine V43_calls p n c w (New w (cs ++ mks 0 64)) ?_
  unfold V43
  have hlen := h.len
  refine lp_of (fun s w1 => ∃ i : Nat, s.2.1 = i ∧ i ≤ n ∧ s.1.2.1 = i ∧ Gro w w1 s.1.1 s.1.2.1 s.1.2.2 (cs.take i)) (fun s _ => (n - s.2.1).toNat) ⟨0, rfl, Nat.zero_le _, rfl, Gro.nil w⟩ ?_
  rintro ⟨⟨q, m, d⟩, i', ⟨⟩⟩ w1 ⟨i, rfl, hi, hm, hG⟩
  simp only [] at hm hG ⊢
  subst hm
  refine pif_of (fun hlt => ?_) fun hge => ?_
  · have hlt : m < n := by simpa using hlt
    refine (h.keep0 hG.keep).ix hlt fun a x hx ha => ldI_of ha ?_
    rw [wrap_nat m (by omega)]
    exact hG.app (by omega) fun p' c' w' hG' => ⟨⟨m + 1, rfl, hlt, rfl, by rw [take_snoc hx]; exact hG'⟩, by omega⟩
  · have hge : m = n := by simp at hge; omega
    subst hge
    rw [← hlen, List.take_length] at hG
    refine lp_of (fun s w1 => ∃ i : Nat, s.2.1 = i ∧ i ≤ 64 ∧ s.1.2.1 = m + i ∧ Gro w w1 s.1.1 s.1.2.1 s.1.2.2 (cs ++ mks 0 i)) (fun s _ => (64 - s.2.1).toNat) ⟨0, rfl, Nat.zero_le _, rfl, by simpa [mks, hlen] using hG⟩ ?_
    rintro ⟨⟨q2, m2, d2⟩, i', ⟨⟩⟩ w2 ⟨i, rfl, hi2, hm2, hG2⟩
    simp only [] at hm2 hG2 ⊢
    refine pif_of (fun hlt => ?_) fun hge => ?_
    · have hlt : i < 64 := by simp at hlt; omega
      refine cl_of ok47 (mark _ _ _) fun e w3 ⟨he, hw⟩ => ⟨_, he, ?_⟩
      subst hw
      rw [wrap_nat i (by omega)]
      exact hG2.app (by omega) fun p' c' w' hG' => ⟨⟨i + 1, rfl, hlt, by omega, by rw [mks_succ, ← List.append_assoc]; exact hG'⟩, by omega⟩
    · have hge : i = 64 := by simp at hge; omega
      subst hge
      exact hG2.done
theorem kept {q : Option Addr} {d : Nat} (h : RdL w p n cs) (hq : RdL w q (n + 64) (cs ++ mks 0 64)) (hn : n ≤ 1099511627776) :
    Calls Try.prog 45 #[.slice q (n + 64) d, .slice p n c] w fun e w' => e = .returned (.bool true) ∧ Keep None w w' := by
  refine (V45_calls q (n + 64) d p n c w (fun v w' => v = .bool true ∧ Keep None w w') ?_).mono fun e w' ⟨v, he, hv, hk⟩ => ⟨by rw [he, hv], hk⟩
  unfold V45
  have hlen := h.len
  have e1 : IntKind.wrap .i64 ((n : Int) + 64) = ((n + 64 : Nat) : Int) := by rw [IntKind.wrap_i64]; omega
  rw [e1]
  refine pif_f (by simp) ?_
  refine lp_of (fun s w1 => ∃ i : Nat, s.1 = i ∧ i ≤ n ∧ Keep None w w1) (fun s _ => (n - s.1).toNat) ⟨0, rfl, Nat.zero_le _, Keep.refl _ _⟩ ?_
  rintro ⟨i', ⟨⟩⟩ w1 ⟨i, rfl, hi, k1⟩
  simp only []
  refine pif_of (fun hlt => ?_) fun hge => ?_
  · have hlt : i < n := by simpa using hlt
    have kd : Keep None w w1.drew := k1.drew
    refine (hq.keep0 kd).ix (by omega) fun a x hx ha => ldI_of ha ((h.keep0 kd).ix hlt fun a2 x2 hx2 ha2 => ldI_of ha2 ?_)
    rw [List.getElem?_append_left (by omega), hx2] at hx
    injection hx with hx
    subst hx
    rw [wrap_nat i (by omega)]
    exact pif_f (by simp) ⟨⟨i + 1, rfl, hlt, kd⟩, by omega⟩
  · refine lp_of (fun s w1 => ∃ i : Nat, s.1 = i ∧ i ≤ 64 ∧ Keep None w w1) (fun s _ => (64 - s.1).toNat) ⟨0, rfl, Nat.zero_le _, k1⟩ ?_
    rintro ⟨i', ⟨⟩⟩ w2 ⟨i, rfl, hi, k2⟩
    simp only []
    refine pif_of (fun hlt => ?_) fun hge => ⟨by first | rfl | trivial, k2⟩
    have hlt : i < 64 := by simp at hlt; omega
    have kd : Keep None w w2.drew := k2.drew
    have e2 : IntKind.wrap .i64 ((n : Int) + (i : Int)) = ((n + i : Nat) : Int) := by rw [IntKind.wrap_i64]; omega
    rw [e2]
    refine (hq.keep0 kd).ix (by omega) fun a x hx ha => ldI_of ha ?_
    rw [List.getElem?_append_right (by omega), show n + i - cs.length = i by omega, mks_at hlt] at hx
    injection hx with hx
    subst hx
    refine cl_of ok47 (mark _ _ _) fun e w3 ⟨he, hw⟩ => ⟨_, he, ldI_of (by rw [hw]; exact ha) rfl, ?_⟩
    subst hw
    rw [wrap_nat i (by omega)]
    exact pif_f (by simp) ⟨⟨i + 1, rfl, hlt, kd⟩, by omega⟩
end
end Go.Proofs.Ytioaaeianjgaoaa.Apart
