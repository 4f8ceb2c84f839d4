/- slices.SortFunc over ints: heap sort, and the insertion sort that gives up. -/
import Derived.Test.YtjpblaenebodlaaSort2
set_option linter.unusedVariables false
set_option linter.unusedSimpArgs false
set_option maxRecDepth 100000
namespace Go.Proofs.Ytjpblaenebodlaa.Sort
open Go Go.Proofs.Ytjpblaenebodlaa.Vc Go.Proofs.Ytjpblaenebodlaa.T

section
variable {w0 w : World} {p : Option Addr} {n c : Nat} {S : Int → Prop} {lt : Int → Int → Bool} {f : Value} {z : List Int}
theorem not_lt_of {x : Int} {b : Bool} (hx : x < 0 ↔ b = true) (h : ¬ x < 0) : b = false := by
  cases b with
  | true => exact absurd (hx.2 rfl) h
  | false => rfl
/-- a heap from a place on -/
def Hp (lt : Int → Int → Bool) (fs lo hi : Nat) (z : List Int) : Prop := ∀ q, 1 ≤ q → q < hi → lo ≤ (q - 1) / 2 → lt (g z (fs + (q - 1) / 2)) (g z (fs + q)) = false
/-- .. but for one -/
def Hq (lt : Int → Int → Bool) (fs lo hi r : Nat) (z : List Int) : Prop := ∀ q, 1 ≤ q → q < hi → lo ≤ (q - 1) / 2 → (q - 1) / 2 ≠ r → lt (g z (fs + (q - 1) / 2)) (g z (fs + q)) = false
theorem sift (cm : Cm w0 p f S lt) (hn : n ≤ 1152921504606846976) (h : Ar w0 p n c S w z) {lo hi fs : Nat} (hhi : fs + hi ≤ n) (hlo : lo ≤ hi) (hq : Hq lt fs lo hi lo z) :
    Calls Try.prog 89 #[.slice p n c, J lo, J hi, J fs, f] w fun e w' => e = .returned (.tuple #[]) ∧ Res w0 p n c S (fs + lo) (fs + hi) z (Hp lt fs lo hi) w w' := by
  refine (V89_calls p n c lo hi fs f w (fun v w' => v = .tuple #[] ∧ Res w0 p n c S (fs + lo) (fs + hi) z (Hp lt fs lo hi) w w') ?_).mono fun e w' ⟨v, he, hv, hk⟩ => ⟨by rw [he, hv], hk⟩
  unfold V89
  refine lp_of (fun s w1 => ∃ (r : Nat) (z1 : List Int), s.1 = r ∧ lo ≤ r ∧ r ≤ hi ∧ Ar w0 p n c S w1 z1 ∧ SP (fs + lo) (fs + hi) z z1 ∧ Hq lt fs lo hi r z1 ∧
      (r = lo ∨ (1 ≤ r ∧ lo ≤ (r - 1) / 2 ∧ ∀ q, 1 ≤ q → q < hi → (q - 1) / 2 = r → lt (g z1 (fs + (r - 1) / 2)) (g z1 (fs + q)) = false)) ∧ Keep (ob p) w w1) (fun s _ => (hi - s.1).toNat)
    ⟨lo, z, rfl, Nat.le_refl _, hlo, h, SP.refl _ _ _, hq, Or.inl rfl, Keep.refl _ _⟩ ?_
  rintro ⟨r', ⟨⟩⟩ w1 ⟨r, z1, rfl, hr, hrh, h1, sp1, hq1, hg1, k1⟩
  simp only []
  have hl := h1.len
  have e1 : IntKind.wrap .i64 ((IntKind.wrap .i64 (2 * (r : Int))) + 1) = ((2 * r + 1 : Nat) : Int) := by rw [wrp (x := 2 * (r : Int)) (by omega), wrp (by omega)]; omega
  have e2 : IntKind.wrap .i64 (((2 * r + 1 : Nat) : Int) + 1) = ((2 * r + 2 : Nat) : Int) := by rw [wrp (by omega)]; omega
  have e3 : IntKind.wrap .i64 ((fs : Int) + ((2 * r + 1 : Nat) : Int)) = ((fs + (2 * r + 1) : Nat) : Int) := by rw [wrp (by omega)]; omega
  have e4 : IntKind.wrap .i64 (((fs + (2 * r + 1) : Nat) : Int) + 1) = ((fs + (2 * r + 2) : Nat) : Int) := by rw [wrp (by omega)]; omega
  have e5 : IntKind.wrap .i64 ((fs : Int) + (r : Int)) = ((fs + r : Nat) : Int) := by rw [wrp (by omega)]; omega
  rw [e1, e2, e3, e4, e5]
  refine pif_of (fun hge => ?_) fun hlt => ?_
  · have hge : hi ≤ 2 * r + 1 := by simp at hge; omega
    refine ⟨by first | rfl | trivial, z1, h1, sp1, fun q a1 a2 a3 => hq1 q a1 a2 a3 (by omega), k1⟩
  · have hlt : 2 * r + 1 < hi := by simp at hlt; omega
    -- the greater one below
    refine ⟨fun s w2 => ∃ m : Nat, s.1 = m ∧ (m = 2 * r + 1 ∨ m = 2 * r + 2) ∧ m < hi ∧ (∀ q, 1 ≤ q → q < hi → (q - 1) / 2 = r → lt (g z1 (fs + m)) (g z1 (fs + q)) = false) ∧ Ar w0 p n c S w2 z1 ∧ Keep None w1 w2, ?_, ?_⟩
    · refine h1.drew.cmpG cm (i := fs + (2 * r + 1)) (j := fs + (2 * r + 2)) (fun hb => ?_) (fun hb x w3 hx h3 k3 => ?_) (fun hb => ?_)
      · have hb : 2 * r + 2 < hi := by simp at hb; omega
        exact ⟨rfl, rfl, by omega, by omega⟩
      · have hb' : 2 * r + 2 < hi := by simp at hb; omega
        have kk : Keep None w1 w3 := (Keep.refl _ w1).drew.then0 k3
        rw [hb]
        refine pif_of (fun hc => ?_) fun hc => ?_
        · have hc : x < 0 := by simpa using hc
          refine ⟨2 * r + 2, rfl, Or.inr rfl, hb', fun q a1 a2 a3 => ?_, h3, kk⟩
          rcases (show q = 2 * r + 1 ∨ q = 2 * r + 2 by omega) with rfl | rfl
          · exact cm.asym _ _ (h1.s (by omega)) (h1.s (by omega)) (hx.1 hc)
          · exact lt_irr cm (h1.s (by omega))
        · have hc : ¬ x < 0 := by simpa using hc
          refine ⟨2 * r + 1, rfl, Or.inl rfl, hlt, fun q a1 a2 a3 => ?_, h3, kk⟩
          rcases (show q = 2 * r + 1 ∨ q = 2 * r + 2 by omega) with rfl | rfl
          · exact lt_irr cm (h1.s (by omega))
          · exact not_lt_of hx hc
      · have hb' : ¬ 2 * r + 2 < hi := by simp at hb; omega
        rw [hb]
        refine pif_f rfl ⟨2 * r + 1, rfl, Or.inl rfl, hlt, fun q a1 a2 a3 => ?_, h1.drew, (Keep.refl _ w1).drew⟩
        obtain rfl : q = 2 * r + 1 := by omega
        exact lt_irr cm (h1.s (by omega))
    · rintro ⟨m', ⟨⟩⟩ w2 ⟨m, rfl, hm, hmh, big, h2, k2⟩
      simp only []
      have e6 : IntKind.wrap .i64 ((fs : Int) + (m : Int)) = ((fs + m : Nat) : Int) := by rw [wrp (by omega)]; omega
      rw [e6]
      refine h2.drew.cmp cm (by omega) (by omega) fun x w3 hx h3 k3 => ?_
      have kk : Keep (ob p) w w3 := (k1.then0 k2).drew.then0 k3
      refine pif_of (fun hc => ?_) fun hc => ?_
      · have hc : ¬ x < 0 := by simpa using hc
        have hno := not_lt_of hx hc
        refine ⟨by first | rfl | trivial, z1, h3, sp1, fun q a1 a2 a3 => ?_, kk⟩
        by_cases hqr : (q - 1) / 2 = r
        · rw [hqr]
          exact cm.trans _ _ _ (h1.s (by omega)) (h1.s (by omega)) (h1.s (by omega)) (big q a1 a2 hqr) hno
        · exact hq1 q a1 a2 a3 hqr
      · have hc : x < 0 := by simpa using hc
        have hyes := hx.1 hc
        refine h3.drew.swap (by omega) (by omega) fun w4 h4 k4 => ?_
        have vw : ∀ k, g (swp z1 (fs + m) (fs + r)) (fs + k) = if k = m then g z1 (fs + r) else if k = r then g z1 (fs + m) else g z1 (fs + k) := fun k => by
          rw [g_swp (by omega) (by omega)]
          by_cases hk : k = m
          · rw [if_pos hk, if_pos (by omega)]
          · rw [if_neg hk, if_neg (by omega)]
            by_cases hk2 : k = r
            · rw [if_pos hk2, if_pos (by omega)]
            · rw [if_neg hk2, if_neg (by omega)]
        refine ⟨⟨m, swp z1 (fs + m) (fs + r), rfl, by omega, by omega, h4, sp1.trans (SP.swap (by have := sp1.len; have := h1.len; omega) ⟨by omega, by omega⟩ ⟨by omega, by omega⟩), fun q a1 a2 a3 a4 => ?_, Or.inr ⟨by omega, by omega, fun q a1 a2 a3 => ?_⟩, kk.drew.trans k4 fun _ _ h => h⟩, by omega⟩
        · rw [vw, vw, if_neg a4]
          by_cases hqr : (q - 1) / 2 = r
          · rw [if_pos hqr]
            by_cases hqm : q = m
            · rw [if_pos hqm]; exact cm.asym _ _ (h1.s (by omega)) (h1.s (by omega)) hyes
            · rw [if_neg hqm, if_neg (by omega)]; exact big q a1 a2 hqr
          · rw [if_neg hqr, if_neg (show ¬ q = m by omega)]
            by_cases hqr2 : q = r
            · rw [if_pos hqr2]
              subst hqr2
              rcases hg1 with hg | ⟨g1, g2, g3⟩
              · omega
              · exact g3 m (by omega) hmh (by omega)
            · rw [if_neg hqr2]; exact hq1 q a1 a2 a3 hqr
        · have er : (m - 1) / 2 = r := by omega
          rw [er, vw, vw, if_neg (show ¬ r = m by omega), if_pos rfl, if_neg (show ¬ q = m by omega), if_neg (show ¬ q = r by omega)]
          have := hq1 q a1 a2 (by omega) (by omega)
          rw [a3] at this
          exact this
theorem root_max (cm : Cm w0 p f S lt) (h : Ar w0 p n c S w z) {fs k : Nat} (hk : fs + k ≤ n) (hp : Hp lt fs 0 k z) : ∀ q, q < k → lt (g z fs) (g z (fs + q)) = false := by
  intro q
  induction q using Nat.strongRecOn with
  | ind q ih =>
    intro hq
    by_cases h0 : q = 0
    · subst h0; exact lt_irr cm (h.s (by omega))
    · have h1 := ih ((q - 1) / 2) (by omega) (by omega)
      have h2 := hp q (by omega) hq (Nat.zero_le _)
      exact cm.trans _ _ _ (h.s (by omega)) (h.s (by omega)) (h.s (by omega)) h2 h1
theorem heap (cm : Cm w0 p f S lt) (hn : n ≤ 1152921504606846976) (h : Ar w0 p n c S w z) {a b : Nat} (hab : a < b) (hb : b ≤ n) :
    Calls Try.prog 76 #[.slice p n c, J a, J b, f] w fun e w' => e = .returned (.tuple #[]) ∧ Res w0 p n c S a b z (Sorted lt a b) w w' := by
  refine (V76_calls p n c a b f w (fun v w' => v = .tuple #[] ∧ Res w0 p n c S a b z (Sorted lt a b) w w') ?_).mono fun e w' ⟨v, he, hv, hk⟩ => ⟨by rw [he, hv], hk⟩
  unfold V76
  obtain ⟨hi, rfl⟩ : ∃ hi, b = a + hi := ⟨b - a, by omega⟩
  have e1 : IntKind.wrap .i64 (((a + hi : Nat) : Int) - (a : Int)) = (hi : Int) := by rw [wrp (by omega)]; omega
  rw [e1, wrm1 (by omega) (by omega)]
  have e2 : IntKind.wrap .i64 (Int.tdiv ((hi - 1 : Nat) : Int) 2) = (((hi - 1) / 2 : Nat) : Int) := by
    rw [Int.tdiv_eq_ediv_of_nonneg (by omega), wrp (by omega)]; omega
  rw [e2]
  refine lp_of (fun s w1 => ∃ (k : Nat) (z1 : List Int), s.1 = (k : Int) - 1 ∧ k ≤ hi ∧ Ar w0 p n c S w1 z1 ∧ SP a (a + hi) z z1 ∧ Hp lt a k hi z1 ∧ Keep (ob p) w w1) (fun s _ => (s.1 + 1).toNat)
    ⟨(hi - 1) / 2 + 1, z, by simp, by omega, h, SP.refl _ _ _, fun q a1 a2 a3 => by omega, Keep.refl _ _⟩ ?_
  rintro ⟨k', ⟨⟩⟩ w1 ⟨k, z1, rfl, hk, h1, sp1, hp1, k1⟩
  simp only []
  refine pif_of (fun hge => ?_) fun hlt => ?_
  · have hge : 1 ≤ k := by simp at hge; omega
    have ek : (k : Int) - 1 = ((k - 1 : Nat) : Int) := by omega
    rw [ek]
    have hq : Hq lt a (k - 1) hi (k - 1) z1 := fun q a1 a2 a3 a4 => hp1 q a1 a2 (by omega)
    refine cl_of ok89 (sift cm hn h1 hb (by omega) hq) fun e w2 ⟨he, z2, h2, sp2, hp2, k2⟩ => ⟨he, ?_⟩
    have e3 : IntKind.wrap .i64 (((k - 1 : Nat) : Int) - 1) = ((k - 1 : Nat) : Int) - 1 := by rw [wrp (by omega)]
    rw [e3]
    exact ⟨⟨k - 1, z2, rfl, by omega, h2, sp1.trans (sp2.mono (by omega) (Nat.le_refl _)), hp2, k1.trans k2 fun _ _ h => h⟩, by omega⟩
  · have hk0 : k = 0 := by simp at hlt; omega
    subst hk0
    refine lp_of (fun s w2 => ∃ (k : Nat) (z2 : List Int), s.1 = (k : Int) - 1 ∧ k ≤ hi ∧ Ar w0 p n c S w2 z2 ∧ SP a (a + hi) z z2 ∧ Hp lt a 0 k z2 ∧ (∀ i j, i < j → k ≤ j → j < hi → lt (g z2 (a + j)) (g z2 (a + i)) = false) ∧ Keep (ob p) w w2) (fun s _ => (s.1 + 1).toNat)
      ⟨hi, z1, by simp; omega, Nat.le_refl _, h1, sp1, hp1, fun i j a1 a2 a3 => by omega, k1⟩ ?_
    rintro ⟨k', ⟨⟩⟩ w2 ⟨k, z2, rfl, hk, h2, sp2, hp2, so2, k2⟩
    simp only []
    refine pif_of (fun hge => ?_) fun hlt => ?_
    · have hge : 1 ≤ k := by simp at hge; omega
      obtain ⟨m, rfl⟩ : ∃ m, k = m + 1 := ⟨k - 1, by omega⟩
      have ek : ((m + 1 : Nat) : Int) - 1 = (m : Int) := by omega
      rw [ek]
      have hl := h2.len
      have e3 : IntKind.wrap .i64 ((a : Int) + (m : Int)) = ((a + m : Nat) : Int) := by rw [wrp (by omega)]; omega
      rw [e3]
      refine h2.drew.swap (by omega) (by omega) fun w3 h3 k3 => ?_
      have hl3 := h3.len
      have vw : ∀ k, g (swp z2 (a + m) a) (a + k) = if k = m then g z2 a else if k = 0 then g z2 (a + m) else g z2 (a + k) := fun k => by
        rw [g_swp (by omega) (by omega)]
        by_cases hk : k = m
        · rw [if_pos hk, if_pos (by omega)]
        · rw [if_neg hk, if_neg (by omega)]
          by_cases hk2 : k = 0
          · rw [if_pos hk2, if_pos (by omega)]
          · rw [if_neg hk2, if_neg (by omega)]
      have rm := root_max cm h2 (by omega) hp2
      have so3 : ∀ i j, i < j → m ≤ j → j < hi → lt (g (swp z2 (a + m) a) (a + j)) (g (swp z2 (a + m) a) (a + i)) = false := fun i j a1 a2 a3 => by
        rw [vw, vw]
        by_cases hj : j = m
        · rw [if_pos hj, if_neg (by omega)]
          by_cases hi0 : i = 0
          · rw [if_pos hi0]; exact rm m (by omega)
          · rw [if_neg hi0]; exact rm i (by omega)
        · rw [if_neg hj, if_neg (by omega)]
          by_cases him : i = m
          · rw [if_pos him]; have := so2 0 j (by omega) (by omega) a3; rwa [Nat.add_zero] at this
          · rw [if_neg him]
            by_cases hi0 : i = 0
            · rw [if_pos hi0]; exact so2 m j (by omega) (by omega) a3
            · rw [if_neg hi0]; exact so2 i j a1 (by omega) a3
      have hq3 : Hq lt a 0 m 0 (swp z2 (a + m) a) := fun q a1 a2 a3 a4 => by
        rw [vw, vw, if_neg (by omega), if_neg a4, if_neg (by omega), if_neg (by omega)]
        exact hp2 q a1 (by omega) a3
      have sp3 : SP a (a + hi) z (swp z2 (a + m) a) := sp2.trans (SP.swap (by omega) ⟨by omega, by omega⟩ ⟨by omega, by omega⟩)
      have k03 : Keep (ob p) w w3 := k2.drew.trans k3 fun _ _ h => h
      generalize swp z2 (a + m) a = z3 at *
      have hsf := sift cm hn h3 (lo := 0) (hi := m) (fs := a) (by omega) (Nat.zero_le _) hq3
      refine cl_of ok89 hsf fun e w4 ⟨he, z4, h4, sp4, hp4, k4⟩ => ⟨he, ?_⟩
      have e4 : IntKind.wrap .i64 ((m : Int) - 1) = (m : Int) - 1 := by rw [wrp (by omega)]
      rw [e4]
      refine ⟨⟨m, z4, rfl, by omega, h4, sp3.trans (sp4.mono (by omega) (by omega)), hp4, fun i j a1 a2 a3 => ?_, k03.trans k4 fun _ _ h => h⟩, by omega⟩
      have ej : g z4 (a + j) = g z3 (a + j) := sp4.out _ (Or.inr (by omega))
      rw [ej]
      by_cases him : i < m
      · exact sp4.all (by omega) (P := fun y => lt (g z3 (a + j)) y = false) (fun q b1 b2 => by
          have := so3 (q - a) j (by omega) a2 a3
          rwa [show a + (q - a) = q by omega] at this) (a + i) (by omega) (by omega)
      · rw [sp4.out (a + i) (Or.inr (by omega))]; exact so3 i j a1 a2 a3
    · have hk0 : k = 0 := by simp at hlt; omega
      subst hk0
      refine ⟨by first | rfl | trivial, z2, h2, sp2, fun i j a1 a2 a3 => ?_, k2⟩
      have := so2 (i - a) (j - a) (by omega) (by omega) (by omega)
      rwa [show a + (j - a) = j by omega, show a + (i - a) = i by omega] at this

theorem pin (cm : Cm w0 p f S lt) (hn : n ≤ 1152921504606846976) (h : Ar w0 p n c S w z) {a b : Nat} (hab : a < b) (hb : b ≤ n) (hpre : 0 < a → ∀ k, a ≤ k → k < b → lt (g z k) (g z (a - 1)) = false) :
    Calls Try.prog 80 #[.slice p n c, J a, J b, f] w fun e w' => ∃ t : Bool, e = .returned (.bool t) ∧ Res w0 p n c S a b z (fun z' => t = true → Sorted lt a b z') w w' := by
  refine (V80_calls p n c a b f w (fun v w' => ∃ t : Bool, v = .bool t ∧ Res w0 p n c S a b z (fun z' => t = true → Sorted lt a b z') w w') ?_).mono fun e w' ⟨v, he, t, hv, hk⟩ => ⟨t, by rw [he, hv], hk⟩
  unfold V80
  rw [wrp1 (by omega)]
  have hl := h.len
  refine lp_of (fun s w1 => ∃ (i m : Nat) (z1 : List Int), s.1 = i ∧ s.2.1 = m ∧ m ≤ 5 ∧ a + 1 ≤ i ∧ i ≤ b ∧ Ar w0 p n c S w1 z1 ∧ SP a b z z1 ∧ Sorted lt a i z1 ∧ Keep (ob p) w w1) (fun s _ => (5 - s.2.1).toNat)
    ⟨a + 1, 0, z, rfl, rfl, by omega, Nat.le_refl _, by omega, h, SP.refl _ _ _, fun i j a1 a2 a3 => by omega, Keep.refl _ _⟩ ?_
  rintro ⟨i', m', ⟨⟩⟩ w1 ⟨i0, m, z1, rfl, rfl, hm, hi1, hi2, h1, sp1, so1, k1⟩
  simp only []
  have hl1 := h1.len
  refine pif_of (fun hlt => ?_) fun hge => ⟨false, rfl, z1, h1, sp1, (fun hh => by cases hh), k1⟩
  have hm5 : m < 5 := by simp at hlt; omega
  refine ⟨fun s w2 => ∃ (i : Nat) (z2 : List Int), s.1 = i ∧ a + 1 ≤ i ∧ i ≤ b ∧ Ar w0 p n c S w2 z2 ∧ SP a b z z2 ∧ Sorted lt a i z2 ∧ Keep (ob p) w w2, ?_, ?_⟩
  · refine lp_of (fun s w3 => ∃ i : Nat, s.1 = i ∧ a + 1 ≤ i ∧ i ≤ b ∧ Ar w0 p n c S w3 z1 ∧ Sorted lt a i z1 ∧ Keep (ob p) w w3) (fun s _ => (b - s.1).toNat) ⟨i0, rfl, hi1, hi2, h1, so1, k1⟩ ?_
    rintro ⟨i', ⟨⟩⟩ w3 ⟨i, rfl, hi1, hi2, h3, so3, k3⟩
    simp only []
    -- behind the scan
    have fin : ∀ {w5 : World} {x : Int} {cc : Bool}, cc = false → Ar w0 p n c S w5 z1 → Keep (ob p) w w5 → True := fun _ _ _ => trivial
    refine h3.drew.cmpG cm (i := i) (j := i - 1) (fun hbb => ?_) (fun hbb x w5 hx h5 k5 => ?_) (fun hbb => ?_)
    · have hbb : i < b := by simpa using hbb
      exact ⟨rfl, wrm1 (by omega) (by omega), by omega, by omega⟩
    · have hib : i < b := by simpa using hbb
      have kk : Keep (ob p) w w5 := k3.drew.then0 k5
      rw [hbb]
      refine pif_of (fun hc => ?_) fun hc => ?_
      · have hc : ¬ x < 0 := by simpa using hc
        have hno := not_lt_of hx hc
        rw [wrp1 (by omega)]
        refine ⟨⟨i + 1, rfl, by omega, by omega, h5, fun u v a1 a2 a3 => ?_, kk⟩, by omega⟩
        by_cases hv : v = i
        · subst hv
          by_cases hu : u = v - 1
          · subst hu; exact hno
          · exact cm.trans _ _ _ (h1.s (by omega)) (h1.s (by omega)) (h1.s (by omega)) (so3 u (v - 1) a1 (by omega) (by omega)) hno
        · exact so3 u v a1 a2 (by omega)
      · have hc : x < 0 := by simpa using hc
        have hyes := hx.1 hc
        refine pif_f (by simp; omega) (pif_of (fun _ => ⟨false, rfl, z1, h5, sp1, (fun hh => by cases hh), kk⟩) fun _ => ?_)
        rw [wrm1 (by omega) (by omega)]
        refine h5.drew.swap (by omega) (by omega) fun w6 h6 k6 => ?_
        have sp6 : SP a b z (swp z1 (i - 1) i) := sp1.trans (SP.swap (by omega) ⟨by omega, by omega⟩ ⟨by omega, by omega⟩)
        have k06 : Keep (ob p) w w6 := kk.drew.trans k6 fun _ _ h => h
        have hpre6 : 0 < a → ∀ k, a ≤ k → k < b → lt (g (swp z1 (i - 1) i) k) (g z (a - 1)) = false := fun ha => sp6.all (by omega) (P := fun y => lt y (g z (a - 1)) = false) (hpre ha)
        have so6 : Sorted lt a (i - 1) (swp z1 (i - 1) i) := fun u v a1 a2 a3 => by
          rw [g_swp (by omega) (by omega), g_swp (by omega) (by omega), if_neg (by omega), if_neg (by omega), if_neg (by omega), if_neg (by omega)]
          exact so3 u v a1 a2 (by omega)
        generalize swp z1 (i - 1) i = z2 at *
        refine ⟨fun _ w8 => ∃ z3, Ar w0 p n c S w8 z3 ∧ SP a b z z3 ∧ Sorted lt a i z3 ∧ Keep (ob p) w w8, ?_, ?_⟩
        · have ei : IntKind.wrap .i64 ((i : Int) - (a : Int)) = ((i - a : Nat) : Int) := by rw [wrp (by omega)]; omega
          rw [ei]
          refine pif_of (fun h2 => ?_) fun h2 => ?_
          · have h2 : a + 2 ≤ i := by simp at h2; omega
            refine lp_of (fun s w9 => ∃ (j : Nat) (z3 : List Int), s.1 = j ∧ a ≤ j ∧ j < i ∧ Ar w0 p n c S w9 z3 ∧ SP a b z z3 ∧ (∀ u v, a ≤ u → u < v → v < i → v ≠ j → lt (g z3 v) (g z3 u) = false) ∧ Keep (ob p) w w9) (fun s _ => s.1.toNat)
              ⟨i - 1, z2, rfl, by omega, by omega, h6, sp6, fun u v a1 a2 a3 a4 => so6 u v a1 a2 (by omega), k06⟩ ?_
            rintro ⟨j', ⟨⟩⟩ w9 ⟨j, z3, rfl, hj1, hj2, h9, sp9, so9, k9⟩
            simp only []
            have hl9 := h9.len
            have done : (j = a ∨ (a < j ∧ lt (g z3 j) (g z3 (j - 1)) = false)) → Sorted lt a i z3 := fun hd u v hu huv hv => by
              by_cases hvj : v = j
              · subst hvj
                rcases hd with hd | ⟨hd1, hd2⟩
                · omega
                · by_cases hu1 : u = v - 1
                  · subst hu1; exact hd2
                  · exact cm.trans _ _ _ (h9.s (by omega)) (h9.s (by omega)) (h9.s (by omega)) (so9 u (v - 1) hu (by omega) (by omega) (by omega)) hd2
              · exact so9 u v hu huv hv hvj
            refine pif_of (fun hj0 => ?_) fun hj0 => ?_
            · have hj0 : 1 ≤ j := by simp at hj0; omega
              rw [wrm1 (by omega) hj0]
              refine h9.drew.cmp cm (by omega) (by omega) fun x2 wa hx2 ha ka => ?_
              have kka : Keep (ob p) w wa := k9.drew.then0 ka
              refine pif_of (fun hc2 => ?_) fun hc2 => ?_
              · have hc2 : ¬ x2 < 0 := by simpa using hc2
                refine ⟨z3, ha, sp9, done ?_, kka⟩
                by_cases hja : j = a
                · exact Or.inl hja
                · exact Or.inr ⟨by omega, not_lt_of hx2 hc2⟩
              · have hc2 : x2 < 0 := by simpa using hc2
                have hyes2 := hx2.1 hc2
                have hja : a < j := by
                  apply Classical.byContradiction
                  intro hno
                  obtain rfl : j = a := by omega
                  have e1 := sp9.out (j - 1) (Or.inl (by omega))
                  have := sp9.all (by omega) (P := fun y => lt y (g z (j - 1)) = false) (hpre (by omega)) j (Nat.le_refl _) hab
                  rw [e1] at hyes2
                  rw [hyes2] at this
                  cases this
                refine ha.drew.swap (by omega) (by omega) fun wb hB kb => ?_
                refine ⟨⟨j - 1, swp z3 (j - 1) j, rfl, by omega, by omega, hB, sp9.trans (SP.swap (by omega) ⟨by omega, by omega⟩ ⟨by omega, by omega⟩), fun u v hu huv hv hne => ?_, kka.drew.trans kb fun _ _ h => h⟩, by omega⟩
                rw [g_swp (by omega) (by omega), g_swp (by omega) (by omega)]
                rw [if_neg hne]
                by_cases hvj : v = j
                · subst hvj
                  rw [if_pos rfl]
                  by_cases hu1 : u = v - 1
                  · rw [if_pos hu1]; exact cm.asym _ _ (h9.s (by omega)) (h9.s (by omega)) hyes2
                  · rw [if_neg hu1, if_neg (by omega)]; exact so9 u (v - 1) hu (by omega) (by omega) (by omega)
                · rw [if_neg hvj]
                  by_cases hu1 : u = j - 1
                  · rw [if_pos hu1]; exact so9 j v (by omega) (by omega) hv hvj
                  · rw [if_neg hu1]
                    by_cases huj : u = j
                    · rw [if_pos huj]; exact so9 (j - 1) v (by omega) (by omega) hv hvj
                    · rw [if_neg huj]; exact so9 u v hu huv hv hvj
            · have hj0 : j = 0 := by simp at hj0; omega
              exact ⟨z3, h9, sp9, done (Or.inl (by omega)), k9⟩
          · have h2 : i = a + 1 := by simp at h2; omega
            exact ⟨z2, h6, sp6, fun u v a1 a2 a3 => by omega, k06⟩
        · rintro ⟨⟩ w8 ⟨z3, h8, sp8, so8, k8⟩
          have ei : IntKind.wrap .i64 ((b : Int) - (i : Int)) = ((b - i : Nat) : Int) := by rw [wrp (by omega)]; omega
          rw [ei]
          refine pif_of (fun h2 => ?_) fun h2 => ⟨i, z3, rfl, hi1, hi2, h8, sp8, so8, k8⟩
          have h2 : i + 2 ≤ b := by simp at h2; omega
          rw [wrp1 (by omega)]
          refine lp_of (fun s w9 => ∃ (j : Nat) (z4 : List Int), s.1 = j ∧ i + 1 ≤ j ∧ j ≤ b ∧ Ar w0 p n c S w9 z4 ∧ SP a b z z4 ∧ Sorted lt a i z4 ∧ Keep (ob p) w w9) (fun s _ => (b - s.1).toNat)
            ⟨i + 1, z3, rfl, Nat.le_refl _, by omega, h8, sp8, so8, k8⟩ ?_
          rintro ⟨j', ⟨⟩⟩ w9 ⟨j, z4, rfl, hj1, hj2, h9, sp9, so9, k9⟩
          simp only []
          have hl9 := h9.len
          refine pif_of (fun hjb => ?_) fun hjb => ⟨i, z4, rfl, hi1, hi2, h9, sp9, so9, k9⟩
          have hjb : j < b := by simpa using hjb
          rw [wrm1 (by omega) (by omega)]
          refine h9.drew.cmp cm (by omega) (by omega) fun x2 wa hx2 ha ka => ?_
          have kka : Keep (ob p) w wa := k9.drew.then0 ka
          refine pif_of (fun hc2 => ⟨i, z4, rfl, hi1, hi2, ha, sp9, so9, kka⟩) fun hc2 => ?_
          refine ha.drew.swap (by omega) (by omega) fun wb hB kb => ?_
          rw [wrp1 (by omega)]
          refine ⟨⟨j + 1, swp z4 (j - 1) j, rfl, by omega, by omega, hB, sp9.trans (SP.swap (by omega) ⟨by omega, by omega⟩ ⟨by omega, by omega⟩), fun u v a1 a2 a3 => ?_, kka.drew.trans kb fun _ _ h => h⟩, by omega⟩
          rw [g_swp (by omega) (by omega), g_swp (by omega) (by omega), if_neg (by omega), if_neg (by omega), if_neg (by omega), if_neg (by omega)]
          exact so9 u v a1 a2 a3
    · have hib : i = b := by simp at hbb; omega
      subst hib
      rw [hbb]
      exact pif_f rfl (pif_t (by simp) ⟨true, rfl, z1, h3.drew, sp1, fun _ => so3, k3.drew⟩)
  · rintro ⟨i', ⟨⟩⟩ w2 ⟨i, z2, rfl, a1, a2, h2, sp2, so2, k2⟩
    simp only []
    rw [wrp1 (by omega)]
    exact ⟨⟨i, m + 1, z2, rfl, rfl, by omega, a1, a2, h2, sp2, so2, k2⟩, by omega⟩
end
end Go.Proofs.Ytjpblaenebodlaa.Sort
