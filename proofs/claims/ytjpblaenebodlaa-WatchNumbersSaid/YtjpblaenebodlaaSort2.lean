/- slices.SortFunc over ints: partitions. -/
import Derived.Test.YtjpblaenebodlaaSort1
set_option linter.unusedVariables false
set_option linter.unusedSimpArgs false
set_option maxRecDepth 100000
namespace Go.Proofs.Ytjpblaenebodlaa.Sort
open Go Go.Proofs.Ytjpblaenebodlaa.Vc Go.Proofs.Ytjpblaenebodlaa.T

section
variable {w0 w : World} {p : Option Addr} {n c : Nat} {S : Int → Prop} {lt : Int → Int → Bool} {f : Value} {z : List Int}
theorem lt_irr (cm : Cm w0 p f S lt) {x : Int} (h : S x) : lt x x = false := by
  cases hq : lt x x with
  | true => rw [← hq]; exact cm.asym x x h h hq
  | false => rfl
theorem upP (cm : Cm w0 p f S lt) (hn : n ≤ 1152921504606846976) (h : Ar w0 p n c S w z) {a i B : Nat} (ha : a < n) (hi : i ≤ B + 1) (hB : B < n) {X : Int × Unit → World → Prop}
    (hX : ∀ (i' : Nat) w', i ≤ i' → i' ≤ B + 1 → (∀ k, i ≤ k → k < i' → lt (g z k) (g z a) = true) → (i' ≤ B → lt (g z i') (g z a) = false) → Ar w0 p n c S w' z → Keep None w w' → X ((i' : Int), ()) w') :
    lp (σ := Int × Unit) (fun s w3 k =>
      gd (α := Addr) (decide (s.1 ≤ (B : Int))) (fun k12 => ixA p n s.1 1 fun p13 => k12 p13 (World.drew w3)) ⟨0, 0, none⟩ (World.drew w3) fun x14 _ =>
      gd (α := Int) (decide (s.1 ≤ (B : Int))) (fun k15 => ldI .i64 (World.drew w3) x14 fun x16 => k15 x16 (World.drew w3)) 0 (World.drew w3) fun x17 _ =>
      gd (α := Addr) (decide (s.1 ≤ (B : Int))) (fun k18 => ixA p n (a : Int) 1 fun p19 => k18 p19 (World.drew w3)) ⟨0, 0, none⟩ (World.drew w3) fun x20 _ =>
      gd (α := Int) (decide (s.1 ≤ (B : Int))) (fun k21 => ldI .i64 (World.drew w3) x20 fun x22 => k21 x22 (World.drew w3)) 0 (World.drew w3) fun x23 _ =>
      gd (α := Int) (decide (s.1 ≤ (B : Int))) (fun k24 => clF Try.prog f [.int .i64 x17, .int .i64 x23] (World.drew w3) fun e26 w4 => ∃ x25 : Int, e26 = Ending.returned (.int .i64 x25) ∧ k24 x25 w4) 0 (World.drew w3) fun x w5 =>
      pif (cond (decide (s.1 ≤ (B : Int))) (decide (x < 0)) false) (k ((IntKind.wrap .i64 (s.1 + 1)), ()) w5) (X s w5)) ((i : Int), ()) w := by
  have hl := h.len
  refine lp_of (fun s w3 => ∃ i' : Nat, s.1 = i' ∧ i ≤ i' ∧ i' ≤ B + 1 ∧ (∀ k, i ≤ k → k < i' → lt (g z k) (g z a) = true) ∧ Ar w0 p n c S w3 z ∧ Keep None w w3) (fun s _ => ((B : Int) + 1 - s.1).toNat) ⟨i, rfl, by omega, by omega, fun k h1 h2 => by omega, h, Keep.refl _ _⟩ ?_
  rintro ⟨v', ⟨⟩⟩ w3 ⟨i', rfl, q1, q2, q3, h3, k3⟩
  simp only []
  refine h3.drew.cmpG cm (i := i') (j := a) (fun hb => ?_) (fun hb x w4 hx h4 k4 => ?_) (fun hb => ?_)
  · have hb : i' ≤ B := by simp at hb; omega
    exact ⟨rfl, rfl, by omega, by omega⟩
  · have hb0 := hb
    have hb : i' ≤ B := by simp at hb0; omega
    have kk : Keep None w w4 := k3.drew.then0 k4
    rw [hb0]
    refine pif_of (fun hc => ?_) fun hc => ?_
    · have hc : x < 0 := by simpa using hc
      have hq := hx.1 hc
      rw [wrp1 (by omega)]
      refine ⟨⟨i' + 1, rfl, by omega, by omega, fun k h1 h2 => ?_, h4, kk⟩, by omega⟩
      by_cases hk : k = i'
      · rw [hk]; exact hq
      · exact q3 k h1 (by omega)
    · have hc : ¬ x < 0 := by simpa using hc
      refine hX i' w4 q1 q2 q3 (fun _ => ?_) h4 kk
      cases hq : lt (g z i') (g z a) with
      | true => exact absurd (hx.2 hq) hc
      | false => rfl
  · have hb0 := hb
    have hb : ¬ i' ≤ B := by simp at hb0; omega
    rw [hb0]
    exact pif_f rfl (hX i' _ q1 q2 q3 (fun hh => absurd hh hb) h3.drew k3.drew)
theorem dnP (cm : Cm w0 p f S lt) (hn : n ≤ 1152921504606846976) (h : Ar w0 p n c S w z) {a i B : Nat} (ha : a < n) (hi : B ≤ i + 1) (hB : 1 ≤ B) (hin : i < n) {X : Int × Unit → World → Prop}
    (hX : ∀ (i' : Nat) w', i' ≤ i → B ≤ i' + 1 → (∀ k, i' < k → k ≤ i → lt (g z k) (g z a) = false) → (B ≤ i' → lt (g z i') (g z a) = true) → Ar w0 p n c S w' z → Keep None w w' → X ((i' : Int), ()) w') :
    lp (σ := Int × Unit) (fun s w3 k =>
      gd (α := Addr) (decide ((B : Int) ≤ s.1)) (fun k12 => ixA p n s.1 1 fun p13 => k12 p13 (World.drew w3)) ⟨0, 0, none⟩ (World.drew w3) fun x14 _ =>
      gd (α := Int) (decide ((B : Int) ≤ s.1)) (fun k15 => ldI .i64 (World.drew w3) x14 fun x16 => k15 x16 (World.drew w3)) 0 (World.drew w3) fun x17 _ =>
      gd (α := Addr) (decide ((B : Int) ≤ s.1)) (fun k18 => ixA p n (a : Int) 1 fun p19 => k18 p19 (World.drew w3)) ⟨0, 0, none⟩ (World.drew w3) fun x20 _ =>
      gd (α := Int) (decide ((B : Int) ≤ s.1)) (fun k21 => ldI .i64 (World.drew w3) x20 fun x22 => k21 x22 (World.drew w3)) 0 (World.drew w3) fun x23 _ =>
      gd (α := Int) (decide ((B : Int) ≤ s.1)) (fun k24 => clF Try.prog f [.int .i64 x17, .int .i64 x23] (World.drew w3) fun e26 w4 => ∃ x25 : Int, e26 = Ending.returned (.int .i64 x25) ∧ k24 x25 w4) 0 (World.drew w3) fun x w5 =>
      pif (cond (decide ((B : Int) ≤ s.1)) (!(decide (x < 0))) false) (k ((IntKind.wrap .i64 (s.1 - 1)), ()) w5) (X s w5)) ((i : Int), ()) w := by
  have hl := h.len
  refine lp_of (fun s w3 => ∃ i' : Nat, s.1 = i' ∧ i' ≤ i ∧ B ≤ i' + 1 ∧ (∀ k, i' < k → k ≤ i → lt (g z k) (g z a) = false) ∧ Ar w0 p n c S w3 z ∧ Keep None w w3) (fun s _ => (s.1 + 1 - (B : Int)).toNat) ⟨i, rfl, by omega, by omega, fun k h1 h2 => by omega, h, Keep.refl _ _⟩ ?_
  rintro ⟨v', ⟨⟩⟩ w3 ⟨i', rfl, q1, q2, q3, h3, k3⟩
  simp only []
  refine h3.drew.cmpG cm (i := i') (j := a) (fun hb => ?_) (fun hb x w4 hx h4 k4 => ?_) (fun hb => ?_)
  · have hb : B ≤ i' := by simp at hb; omega
    exact ⟨rfl, rfl, by omega, by omega⟩
  · have hb0 := hb
    have hb : B ≤ i' := by simp at hb0; omega
    have kk : Keep None w w4 := k3.drew.then0 k4
    rw [hb0]
    refine pif_of (fun hc => ?_) fun hc => ?_
    · have hc : ¬ x < 0 := by simpa using hc
      have hq : lt (g z i') (g z a) = false := by
        cases hq : lt (g z i') (g z a) with
        | true => exact absurd (hx.2 hq) hc
        | false => rfl
      rw [wrm1 (by omega) (by omega)]
      refine ⟨⟨i' - 1, rfl, by omega, by omega, fun k h1 h2 => ?_, h4, kk⟩, by omega⟩
      by_cases hk : k = i'
      · rw [hk]; exact hq
      · exact q3 k (by omega) h2
    · have hc : x < 0 := by simpa using hc
      exact hX i' w4 q1 q2 q3 (fun _ => hx.1 hc) h4 kk
  · have hb0 := hb
    have hb : ¬ B ≤ i' := by simp at hb0; omega
    rw [hb0]
    exact pif_f rfl (hX i' _ q1 q2 q3 (fun hh => absurd hh hb) h3.drew k3.drew)
theorem upE (cm : Cm w0 p f S lt) (hn : n ≤ 1152921504606846976) (h : Ar w0 p n c S w z) {a i B : Nat} (ha : a < n) (hi : i ≤ B + 1) (hB : B < n) {X : Int × Unit → World → Prop}
    (hX : ∀ (i' : Nat) w', i ≤ i' → i' ≤ B + 1 → (∀ k, i ≤ k → k < i' → lt (g z a) (g z k) = false) → (i' ≤ B → lt (g z a) (g z i') = true) → Ar w0 p n c S w' z → Keep None w w' → X ((i' : Int), ()) w') :
    lp (σ := Int × Unit) (fun s w3 k =>
      gd (α := Addr) (decide (s.1 ≤ (B : Int))) (fun k12 => ixA p n (a : Int) 1 fun p13 => k12 p13 (World.drew w3)) ⟨0, 0, none⟩ (World.drew w3) fun x14 _ =>
      gd (α := Int) (decide (s.1 ≤ (B : Int))) (fun k15 => ldI .i64 (World.drew w3) x14 fun x16 => k15 x16 (World.drew w3)) 0 (World.drew w3) fun x17 _ =>
      gd (α := Addr) (decide (s.1 ≤ (B : Int))) (fun k18 => ixA p n s.1 1 fun p19 => k18 p19 (World.drew w3)) ⟨0, 0, none⟩ (World.drew w3) fun x20 _ =>
      gd (α := Int) (decide (s.1 ≤ (B : Int))) (fun k21 => ldI .i64 (World.drew w3) x20 fun x22 => k21 x22 (World.drew w3)) 0 (World.drew w3) fun x23 _ =>
      gd (α := Int) (decide (s.1 ≤ (B : Int))) (fun k24 => clF Try.prog f [.int .i64 x17, .int .i64 x23] (World.drew w3) fun e26 w4 => ∃ x25 : Int, e26 = Ending.returned (.int .i64 x25) ∧ k24 x25 w4) 0 (World.drew w3) fun x w5 =>
      pif (cond (decide (s.1 ≤ (B : Int))) (!(decide (x < 0))) false) (k ((IntKind.wrap .i64 (s.1 + 1)), ()) w5) (X s w5)) ((i : Int), ()) w := by
  have hl := h.len
  refine lp_of (fun s w3 => ∃ i' : Nat, s.1 = i' ∧ i ≤ i' ∧ i' ≤ B + 1 ∧ (∀ k, i ≤ k → k < i' → lt (g z a) (g z k) = false) ∧ Ar w0 p n c S w3 z ∧ Keep None w w3) (fun s _ => ((B : Int) + 1 - s.1).toNat) ⟨i, rfl, by omega, by omega, fun k h1 h2 => by omega, h, Keep.refl _ _⟩ ?_
  rintro ⟨v', ⟨⟩⟩ w3 ⟨i', rfl, q1, q2, q3, h3, k3⟩
  simp only []
  refine h3.drew.cmpG cm (i := a) (j := i') (fun hb => ?_) (fun hb x w4 hx h4 k4 => ?_) (fun hb => ?_)
  · have hb : i' ≤ B := by simp at hb; omega
    exact ⟨rfl, rfl, by omega, by omega⟩
  · have hb0 := hb
    have hb : i' ≤ B := by simp at hb0; omega
    have kk : Keep None w w4 := k3.drew.then0 k4
    rw [hb0]
    refine pif_of (fun hc => ?_) fun hc => ?_
    · have hc : ¬ x < 0 := by simpa using hc
      have hq : lt (g z a) (g z i') = false := by
        cases hq : lt (g z a) (g z i') with
        | true => exact absurd (hx.2 hq) hc
        | false => rfl
      rw [wrp1 (by omega)]
      refine ⟨⟨i' + 1, rfl, by omega, by omega, fun k h1 h2 => ?_, h4, kk⟩, by omega⟩
      by_cases hk : k = i'
      · rw [hk]; exact hq
      · exact q3 k h1 (by omega)
    · have hc : x < 0 := by simpa using hc
      exact hX i' w4 q1 q2 q3 (fun _ => hx.1 hc) h4 kk
  · have hb0 := hb
    have hb : ¬ i' ≤ B := by simp at hb0; omega
    rw [hb0]
    exact pif_f rfl (hX i' _ q1 q2 q3 (fun hh => absurd hh hb) h3.drew k3.drew)
theorem dnE (cm : Cm w0 p f S lt) (hn : n ≤ 1152921504606846976) (h : Ar w0 p n c S w z) {a i B : Nat} (ha : a < n) (hi : B ≤ i + 1) (hB : 1 ≤ B) (hin : i < n) {X : Int × Unit → World → Prop}
    (hX : ∀ (i' : Nat) w', i' ≤ i → B ≤ i' + 1 → (∀ k, i' < k → k ≤ i → lt (g z a) (g z k) = true) → (B ≤ i' → lt (g z a) (g z i') = false) → Ar w0 p n c S w' z → Keep None w w' → X ((i' : Int), ()) w') :
    lp (σ := Int × Unit) (fun s w3 k =>
      gd (α := Addr) (decide ((B : Int) ≤ s.1)) (fun k12 => ixA p n (a : Int) 1 fun p13 => k12 p13 (World.drew w3)) ⟨0, 0, none⟩ (World.drew w3) fun x14 _ =>
      gd (α := Int) (decide ((B : Int) ≤ s.1)) (fun k15 => ldI .i64 (World.drew w3) x14 fun x16 => k15 x16 (World.drew w3)) 0 (World.drew w3) fun x17 _ =>
      gd (α := Addr) (decide ((B : Int) ≤ s.1)) (fun k18 => ixA p n s.1 1 fun p19 => k18 p19 (World.drew w3)) ⟨0, 0, none⟩ (World.drew w3) fun x20 _ =>
      gd (α := Int) (decide ((B : Int) ≤ s.1)) (fun k21 => ldI .i64 (World.drew w3) x20 fun x22 => k21 x22 (World.drew w3)) 0 (World.drew w3) fun x23 _ =>
      gd (α := Int) (decide ((B : Int) ≤ s.1)) (fun k24 => clF Try.prog f [.int .i64 x17, .int .i64 x23] (World.drew w3) fun e26 w4 => ∃ x25 : Int, e26 = Ending.returned (.int .i64 x25) ∧ k24 x25 w4) 0 (World.drew w3) fun x w5 =>
      pif (cond (decide ((B : Int) ≤ s.1)) (decide (x < 0)) false) (k ((IntKind.wrap .i64 (s.1 - 1)), ()) w5) (X s w5)) ((i : Int), ()) w := by
  have hl := h.len
  refine lp_of (fun s w3 => ∃ i' : Nat, s.1 = i' ∧ i' ≤ i ∧ B ≤ i' + 1 ∧ (∀ k, i' < k → k ≤ i → lt (g z a) (g z k) = true) ∧ Ar w0 p n c S w3 z ∧ Keep None w w3) (fun s _ => (s.1 + 1 - (B : Int)).toNat) ⟨i, rfl, by omega, by omega, fun k h1 h2 => by omega, h, Keep.refl _ _⟩ ?_
  rintro ⟨v', ⟨⟩⟩ w3 ⟨i', rfl, q1, q2, q3, h3, k3⟩
  simp only []
  refine h3.drew.cmpG cm (i := a) (j := i') (fun hb => ?_) (fun hb x w4 hx h4 k4 => ?_) (fun hb => ?_)
  · have hb : B ≤ i' := by simp at hb; omega
    exact ⟨rfl, rfl, by omega, by omega⟩
  · have hb0 := hb
    have hb : B ≤ i' := by simp at hb0; omega
    have kk : Keep None w w4 := k3.drew.then0 k4
    rw [hb0]
    refine pif_of (fun hc => ?_) fun hc => ?_
    · have hc : x < 0 := by simpa using hc
      have hq := hx.1 hc
      rw [wrm1 (by omega) (by omega)]
      refine ⟨⟨i' - 1, rfl, by omega, by omega, fun k h1 h2 => ?_, h4, kk⟩, by omega⟩
      by_cases hk : k = i'
      · rw [hk]; exact hq
      · exact q3 k (by omega) h2
    · have hc : ¬ x < 0 := by simpa using hc
      refine hX i' w4 q1 q2 q3 (fun _ => ?_) h4 kk
      cases hq : lt (g z a) (g z i') with
      | true => exact absurd (hx.2 hq) hc
      | false => rfl
  · have hb0 := hb
    have hb : ¬ B ≤ i' := by simp at hb0; omega
    rw [hb0]
    exact pif_f rfl (hX i' _ q1 q2 q3 (fun hh => absurd hh hb) h3.drew k3.drew)
/-- where the equal ones end -/
def PeQ (lt : Int → Int → Bool) (a b : Nat) (x : Int) (m : Nat) (z : List Int) : Prop := a < m ∧ m ≤ b ∧ (∀ k, a ≤ k → k < m → lt x (g z k) = false) ∧ ∀ k, m ≤ k → k < b → lt x (g z k) = true
theorem peq (cm : Cm w0 p f S lt) (hn : n ≤ 1152921504606846976) (h : Ar w0 p n c S w z) {a b q : Nat} (hab : a < b) (hb : b ≤ n) (hq : a ≤ q ∧ q < b) :
    Calls Try.prog 81 #[.slice p n c, J a, J b, J q, f] w fun e w' => ∃ m : Nat, e = .returned (J m) ∧ Res w0 p n c S a b z (PeQ lt a b (g z q) m) w w' := by
  refine (V81_calls p n c a b q f w (fun v w' => ∃ m : Nat, v = J m ∧ Res w0 p n c S a b z (PeQ lt a b (g z q) m) w w') ?_).mono fun e w' ⟨v, he, m, hv, hk⟩ => ⟨m, by rw [he, hv], hk⟩
  unfold V81
  have hl := h.len
  refine h.drew.swap (by omega) (by omega) fun w2 h2 k2 => ?_
  rw [wrp1 (by omega), wrm1 (by omega) (by omega)]
  have e0 : g (swp z q a) a = g z q := by
    rw [g_swp (by omega) (by omega)]
    by_cases haq : a = q
    · rw [if_pos haq, haq]
    · rw [if_neg haq, if_pos rfl]
  have sp0 : SP a b z (swp z q a) := SP.swap (by omega) hq ⟨Nat.le_refl _, hab⟩
  refine lp_of (fun s w3 => ∃ (i j : Nat) (z1 : List Int), s.1 = i ∧ s.2.1 = j ∧ a + 1 ≤ i ∧ a ≤ j ∧ j < b ∧ i ≤ j + 1 ∧ Ar w0 p n c S w3 z1 ∧ SP a b z z1 ∧ g z1 a = g z q ∧ (∀ k, a ≤ k → k < i → lt (g z q) (g z1 k) = false) ∧ (∀ k, j < k → k < b → lt (g z q) (g z1 k) = true) ∧ Keep (ob p) w w3)
    (fun s _ => (s.2.1 + 1 - s.1).toNat) ⟨a + 1, b - 1, _, rfl, rfl, Nat.le_refl _, by omega, by omega, by omega, h2, sp0, e0, fun k h1 h3 => ?_, fun k h1 h3 => by omega, (Keep.refl _ w).drew.trans k2 fun _ _ h => h⟩ ?_
  · obtain rfl : k = a := by omega
    rw [e0]
    exact lt_irr cm (h.s (by omega))
  rintro ⟨i', j', ⟨⟩⟩ w3 ⟨i, j, z1, rfl, rfl, hi, hj, hjb, hij, h3, sp3, e3, lo3, hi3, k3⟩
  simp only []
  refine upE cm hn h3 (a := a) (i := i) (B := j) (by omega) hij (by omega) fun i' w4 q1 q2 q3 q4 h4 k4 => ?_
  simp only []
  refine dnE cm hn h4 (a := a) (i := j) (B := i') (by omega) (by omega) (by omega) (by omega) fun j' w5 r1 r2 r3 r4 h5 k5 => ?_
  have kk : Keep (ob p) w w5 := (k3.then0 k4).then0 k5
  simp only []
  have hl5 := h5.len
  refine pif_of (fun hgt => ?_) fun hle => ?_
  · have hgt : j' < i' := by simp at hgt; omega
    refine ⟨i', rfl, z1, h5, sp3, ⟨by omega, by omega, fun k h1 h2 => ?_, fun k h1 h2 => ?_⟩, kk⟩
    · by_cases hk : k < i
      · exact lo3 k h1 hk
      · rw [← e3]; exact q3 k (by omega) h2
    · by_cases hk : j < k
      · exact hi3 k hk h2
      · rw [← e3]; exact r3 k (by omega) (by omega)
  · have hle : i' ≤ j' := by simp at hle; omega
    refine h5.drew.swap (by omega) (by omega) fun w6 h6 k6 => ?_
    rw [wrp1 (by omega), wrm1 (by omega) (by omega)]
    have a1 := q4 (by omega)
    have a2 := r4 hle
    have hne : i' ≠ j' := fun hh => by rw [hh] at a1; rw [a1] at a2; cases a2
    refine ⟨⟨i' + 1, j' - 1, swp z1 j' i', rfl, rfl, by omega, by omega, by omega, by omega, h6, sp3.trans (SP.swap (by omega) ⟨by omega, by omega⟩ ⟨by omega, by omega⟩), ?_, fun k h1 h2 => ?_, fun k h1 h2 => ?_, kk.drew.trans k6 fun _ _ h => h⟩, by omega⟩
    · rw [g_swp (by omega) (by omega), if_neg (by omega), if_neg (by omega)]; exact e3
    · rw [g_swp (by omega) (by omega), if_neg (by omega)]
      by_cases hk : k = i'
      · rw [if_pos hk, ← e3]; exact a2
      · rw [if_neg hk]
        by_cases hk2 : k < i
        · exact lo3 k h1 hk2
        · rw [← e3]; exact q3 k (by omega) (by omega)
    · rw [g_swp (by omega) (by omega)]
      by_cases hk : k = j'
      · rw [if_pos hk, ← e3]; exact a1
      · rw [if_neg hk, if_neg (by omega)]
        by_cases hk2 : j < k
        · exact hi3 k hk2 h2
        · rw [← e3]; exact r3 k (by omega) (by omega)

/-- where the pivot stands -/
def PaR (lt : Int → Int → Bool) (a b m : Nat) (z : List Int) : Prop := a ≤ m ∧ m < b ∧ (∀ k, a ≤ k → k < m → lt (g z k) (g z m) = true) ∧ ∀ k, m < k → k < b → lt (g z k) (g z m) = false
theorem par_end (h : Ar w0 p n c S w z) {a b j : Nat} {z1 : List Int} (hb : b ≤ n) (h1 : Ar w0 p n c S w z1) (hj : a ≤ j ∧ j < b) (lo : ∀ k, a + 1 ≤ k → k ≤ j → lt (g z1 k) (g z1 a) = true) (hi : ∀ k, j < k → k < b → lt (g z1 k) (g z1 a) = false) :
    PaR lt a b j (swp z1 a j) := by
  have hl := h1.len
  refine ⟨hj.1, hj.2, fun k q1 q2 => ?_, fun k q1 q2 => ?_⟩
  · rw [g_swp (by omega) (by omega), g_swp (by omega) (by omega), if_neg (show ¬ k = j by omega)]
    rw [if_neg (show ¬ j = a by omega), if_pos rfl]
    by_cases hk : k = a
    · rw [if_pos hk]; exact lo j (by omega) (Nat.le_refl _)
    · rw [if_neg hk]; exact lo k (by omega) (by omega)
  · rw [g_swp (by omega) (by omega), g_swp (by omega) (by omega), if_neg (show ¬ k = a by omega), if_neg (show ¬ k = j by omega)]
    have := hi k q1 q2
    by_cases hja : j = a
    · rw [if_pos hja, hja]; exact this
    · rw [if_neg hja, if_pos rfl]; exact this
theorem par (cm : Cm w0 p f S lt) (hn : n ≤ 1152921504606846976) (h : Ar w0 p n c S w z) {a b q : Nat} (hab : a < b) (hb : b ≤ n) (hq : a ≤ q ∧ q < b) :
    Calls Try.prog 82 #[.slice p n c, J a, J b, J q, f] w fun e w' => ∃ (m : Nat) (t : Bool), e = .returned (.tuple #[J m, .bool t]) ∧ Res w0 p n c S a b z (PaR lt a b m) w w' := by
  refine (V82_calls p n c a b q f w (fun v w' => ∃ (m : Nat) (t : Bool), v = .tuple #[J m, .bool t] ∧ Res w0 p n c S a b z (PaR lt a b m) w w') ?_).mono fun e w' ⟨v, he, m, t, hv, hk⟩ => ⟨m, t, by rw [he, hv], hk⟩
  unfold V82
  have hl := h.len
  refine h.drew.swap (by omega) (by omega) fun w2 h2 k2 => ?_
  rw [wrp1 (by omega), wrm1 (by omega) (by omega)]
  have sp0 : SP a b z (swp z q a) := SP.swap (by omega) hq ⟨Nat.le_refl _, hab⟩
  have k02 : Keep (ob p) w w2 := (Keep.refl _ w).drew.trans k2 fun _ _ h => h
  generalize swp z q a = z1 at *
  simp only []
  refine upP cm hn h2 (a := a) (i := a + 1) (B := b - 1) (by omega) (by omega) (by omega) fun i w3 q1 q2 q3 q4 h3 k3 => ?_
  simp only []
  refine dnP cm hn h3 (a := a) (i := b - 1) (B := i) (by omega) (by omega) (by omega) (by omega) fun j w4 r1 r2 r3 r4 h4 k4 => ?_
  have kk : Keep (ob p) w w4 := (k02.then0 k3).then0 k4
  simp only []
  have hl4 := h4.len
  refine pif_of (fun hgt => ?_) fun hle => ?_
  · have hgt : j < i := by simp at hgt; omega
    refine h4.drew.swap (by omega) (by omega) fun w5 h5 k5 => ?_
    refine ⟨j, true, rfl, swp z1 a j, h5, sp0.trans (SP.swap (by omega) ⟨by omega, by omega⟩ ⟨by omega, by omega⟩), par_end h4 hb h4 ⟨by omega, by omega⟩ (fun k h1 h2 => q3 k h1 (by omega)) (fun k h1 h2 => r3 k h1 (by omega)), kk.drew.trans k5 fun _ _ h => h⟩
  · have hle : i ≤ j := by simp at hle; omega
    refine h4.drew.swap (by omega) (by omega) fun w5 h5 k5 => ?_
    rw [wrp1 (by omega), wrm1 (by omega) (by omega)]
    have a1 := q4 (by omega)
    have a2 := r4 hle
    have hne : i ≠ j := fun hh => by rw [hh] at a1; rw [a1] at a2; cases a2
    have swq : ∀ {i j : Nat} {z1 : List Int}, z1.length = n → a + 1 ≤ i → i < j → j < b → lt (g z1 i) (g z1 a) = false → lt (g z1 j) (g z1 a) = true → (∀ k, a + 1 ≤ k → k < i → lt (g z1 k) (g z1 a) = true) → (∀ k, j < k → k < b → lt (g z1 k) (g z1 a) = false) →
        g (swp z1 j i) a = g z1 a ∧ (∀ k, a + 1 ≤ k → k < i + 1 → lt (g (swp z1 j i) k) (g z1 a) = true) ∧ (∀ k, j - 1 < k → k < b → lt (g (swp z1 j i) k) (g z1 a) = false) := by
      intro i j z1 hlz hi hij hjb a1 a2 lo hi2
      refine ⟨by rw [g_swp (by omega) (by omega), if_neg (by omega), if_neg (by omega)], fun k h1 h2 => ?_, fun k h1 h2 => ?_⟩
      · rw [g_swp (by omega) (by omega), if_neg (by omega)]
        by_cases hk : k = i
        · rw [if_pos hk]; exact a2
        · rw [if_neg hk]; exact lo k h1 (by omega)
      · rw [g_swp (by omega) (by omega)]
        by_cases hk : k = j
        · rw [if_pos hk]; exact a1
        · rw [if_neg hk, if_neg (by omega)]; exact hi2 k (by omega) h2
    have no : ∀ {x : Bool}, x ≠ true → x = false := fun h => by cases ‹Bool› <;> simp_all
    obtain ⟨b1, b2, b3⟩ := swq hl4 (by omega) (by omega) (by omega) a1 a2 (fun k h1 h2 => q3 k h1 h2) (fun k h1 h2 => r3 k h1 (by omega))
    have sp5 : SP a b z (swp z1 j i) := sp0.trans (SP.swap (by omega) ⟨by omega, by omega⟩ ⟨by omega, by omega⟩)
    have k05 : Keep (ob p) w w5 := kk.drew.trans k5 fun _ _ h => h
    have j1 : 1 ≤ j := by omega
    refine lp_of (fun s w6 => ∃ (i j : Nat) (z2 : List Int), s.1 = i ∧ s.2.1 = j ∧ a + 1 ≤ i ∧ a ≤ j ∧ j < b ∧ i ≤ j + 1 ∧ Ar w0 p n c S w6 z2 ∧ SP a b z z2 ∧ (∀ k, a + 1 ≤ k → k < i → lt (g z2 k) (g z2 a) = true) ∧ (∀ k, j < k → k < b → lt (g z2 k) (g z2 a) = false) ∧ Keep (ob p) w w6)
      (fun s _ => (s.2.1 + 1 - s.1).toNat) ⟨i + 1, j - 1, swp z1 j i, rfl, rfl, by omega, by omega, by omega, by omega, h5, sp5, by rw [b1]; exact b2, by rw [b1]; exact b3, k05⟩ ?_
    rintro ⟨i', j', ⟨⟩⟩ w6 ⟨i, j, z2, rfl, rfl, hi, hj, hjb, hij, h6, sp6, lo6, hi6, k6⟩
    simp only []
    refine upP cm hn h6 (a := a) (i := i) (B := j) (by omega) hij (by omega) fun i' w7 q1 q2 q3 q4 h7 k7 => ?_
    simp only []
    refine dnP cm hn h7 (a := a) (i := j) (B := i') (by omega) (by omega) (by omega) (by omega) fun j' w8 r1 r2 r3 r4 h8 k8 => ?_
    have kk : Keep (ob p) w w8 := (k6.then0 k7).then0 k8
    simp only []
    have hl8 := h8.len
    have lo' : ∀ k, a + 1 ≤ k → k < i' → lt (g z2 k) (g z2 a) = true := fun k h1 h2 => by
      by_cases hk : k < i
      · exact lo6 k h1 hk
      · exact q3 k (by omega) h2
    have hi' : ∀ k, j' < k → k < b → lt (g z2 k) (g z2 a) = false := fun k h1 h2 => by
      by_cases hk : j < k
      · exact hi6 k hk h2
      · exact r3 k h1 (by omega)
    refine pif_of (fun hgt => ?_) fun hle => ?_
    · have hgt : j' < i' := by simp at hgt; omega
      refine h8.drew.swap (by omega) (by omega) fun w9 h9 k9 => ?_
      exact ⟨j', false, rfl, swp z2 a j', h9, sp6.trans (SP.swap (by omega) ⟨by omega, by omega⟩ ⟨by omega, by omega⟩), par_end h8 hb h8 ⟨by omega, by omega⟩ (fun k h1 h2 => lo' k h1 (by omega)) hi', kk.drew.trans k9 fun _ _ h => h⟩
    · have hle : i' ≤ j' := by simp at hle; omega
      refine h8.drew.swap (by omega) (by omega) fun w9 h9 k9 => ?_
      rw [wrp1 (by omega), wrm1 (by omega) (by omega)]
      have a1 := q4 (by omega)
      have a2 := r4 hle
      have hne : i' ≠ j' := fun hh => by rw [hh] at a1; rw [a1] at a2; cases a2
      obtain ⟨b1, b2, b3⟩ := swq hl8 (by omega) (by omega) (by omega) a1 a2 lo' hi'
      exact ⟨⟨i' + 1, j' - 1, swp z2 j' i', rfl, rfl, by omega, by omega, by omega, by omega, h9, sp6.trans (SP.swap (by omega) ⟨by omega, by omega⟩ ⟨by omega, by omega⟩), by rw [b1]; exact b2, by rw [b1]; exact b3, kk.drew.trans k9 fun _ _ h => h⟩, by omega⟩
end
end Go.Proofs.Ytjpblaenebodlaa.Sort
