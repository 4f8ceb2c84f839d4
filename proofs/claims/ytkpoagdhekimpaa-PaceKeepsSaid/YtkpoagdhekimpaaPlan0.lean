/- What Plan makes, as numbers. -/
import Derived.Test.YtkpoagdhekimpaaLuby
set_option linter.unusedVariables false
set_option linter.unusedSimpArgs false
namespace Go.Proofs.Ytkpoagdhekimpaa.Pace
open Go Go.Proofs.Ytkpoagdhekimpaa.Vc Go.Proofs.Ytkpoagdhekimpaa.T

theorem lub_bounds : ∀ n : Nat, 0 < n → 1 ≤ lub n ∧ lub n ≤ n := by
  intro n
  induction n using Nat.strongRecOn with
  | ind n ih =>
    intro h0
    have h1 := two_pow_blen h0
    have hp : 0 < 2 ^ (blen n - 1) := Nat.two_pow_pos _
    by_cases h : n + 1 = 2 ^ blen n
    · rw [lub_end h0 h]; omega
    · rw [lub_on h0 h]
      have hlow := blen_low h0
      have := ih (n + 1 - 2 ^ (blen n - 1)) (by
        have : 2 ≤ 2 ^ (blen n - 1) := by
          have hb := blen_pos h0
          by_cases hb1 : blen n = 1
          · exfalso
            have : n + 1 = 2 ^ blen n := by
              have hh := blen_high (n := n)
              rw [hb1] at hh hlow ⊢
              simp at hh hlow ⊢
              omega
            exact h this
          · obtain ⟨m, hm⟩ : ∃ m, blen n - 1 = m + 1 := ⟨blen n - 2, by omega⟩
            rw [hm, Nat.pow_succ]
            have := Nat.two_pow_pos m
            omega
        omega) (by omega)
      omega
/-- behind k units: conflicts, those at the last clearing, how many clearings, the beats -/
def pst (b f g : Int) : Nat → Int × Int × Int × List (Int × Bool)
  | 0 => (0, 0, 0, [])
  | k + 1 =>
    let s := pst b f g k
    let n := s.1 + b * (lub (k + 1) : Int)
    let c := !decide (n - s.2.1 < f + s.2.2.1 * g)
    (n, cond c n s.2.1, cond c (s.2.2.1 + 1) s.2.2.1, s.2.2.2 ++ [(n, c)])
theorem pst_n (b f g : Int) (k : Nat) : (pst b f g (k + 1)).1 = (pst b f g k).1 + b * (lub (k + 1) : Int) := rfl
theorem pst_ge {b f g : Int} (hb : 1 ≤ b) : ∀ k : Nat, (k : Int) ≤ (pst b f g k).1 := by
  intro k
  induction k with
  | zero => exact Int.le_refl _
  | succ k ih =>
    rw [pst_n]
    have h1 := (lub_bounds (k + 1) (by omega)).1
    have : (1 : Int) * 1 ≤ b * (lub (k + 1) : Int) := Int.mul_le_mul hb (by omega) (by omega) (by omega)
    omega
theorem pst_step {b f g : Int} (hb : 1 ≤ b) (k : Nat) : (pst b f g k).1 + b ≤ (pst b f g (k + 1)).1 := by
  rw [pst_n]
  have h1 := (lub_bounds (k + 1) (by omega)).1
  have : b * 1 ≤ b * (lub (k + 1) : Int) := Int.mul_le_mul_of_nonneg_left (by omega) (by omega)
  omega
theorem pst_mono {b f g : Int} (hb : 1 ≤ b) {k l : Nat} (h : k ≤ l) : (pst b f g k).1 ≤ (pst b f g l).1 := by
  induction l with
  | zero => obtain rfl : k = 0 := by omega
            exact Int.le_refl _
  | succ l ih =>
    rcases Nat.eq_or_lt_of_le h with rfl | h
    · exact Int.le_refl _
    · have := ih (by omega); have := pst_step (f := f) (g := g) hb l; omega
/-- so many units have room -/
def IsK (b f g N : Int) (k : Nat) : Prop := (pst b f g k).1 ≤ N ∧ N < (pst b f g (k + 1)).1
theorem isK_one {b f g N : Int} (hb : 1 ≤ b) {k l : Nat} (h : IsK b f g N k) (h' : IsK b f g N l) : k = l := by
  rcases Nat.lt_trichotomy k l with hl | hl | hl
  · have := pst_mono (f := f) (g := g) hb (show k + 1 ≤ l by omega); have := h.2; have := h'.1; omega
  · exact hl
  · have := pst_mono (f := f) (g := g) hb (show l + 1 ≤ k by omega); have := h'.2; have := h.1; omega
theorem isK_some {b f g N : Int} (hb : 1 ≤ b) (hN : 0 ≤ N) : ∃ k, IsK b f g N k := by
  have key : ∀ n : Nat, ∀ k : Nat, (pst b f g k).1 ≤ N → (N - (pst b f g k).1).toNat ≤ n → ∃ k, IsK b f g N k := by
    intro n
    induction n with
    | zero =>
      intro k h1 h2
      exact ⟨k, h1, by have := pst_step (f := f) (g := g) hb k; omega⟩
    | succ n ih =>
      intro k h1 h2
      by_cases h : N < (pst b f g (k + 1)).1
      · exact ⟨k, h1, h⟩
      · exact ih (k + 1) (by omega) (by have := pst_step (f := f) (g := g) hb k; omega)
  exact key _ 0 hN (Nat.le_refl _)
/-- the beats behind k units -/
def beats (b f g : Int) (k : Nat) : List (Int × Bool) := (pst b f g k).2.2.2
theorem beats_succ (b f g : Int) (k : Nat) : beats b f g (k + 1) = beats b f g k ++ [((pst b f g (k + 1)).1, !decide ((pst b f g (k + 1)).1 - (pst b f g k).2.1 < f + (pst b f g k).2.2.1 * g))] := rfl
theorem beats_len (b f g : Int) : ∀ k, (beats b f g k).length = k := by
  intro k
  induction k with
  | zero => rfl
  | succ k ih => rw [beats_succ, List.length_append, ih]; rfl
theorem beats_pre (b f g : Int) {k l : Nat} (h : k ≤ l) : (beats b f g l).take k = beats b f g k := by
  induction l with
  | zero => obtain rfl : k = 0 := by omega
            rfl
  | succ l ih =>
    rcases Nat.eq_or_lt_of_le h with rfl | h
    · exact List.take_of_length_le (by rw [beats_len]; exact Nat.le_refl _)
    · rw [beats_succ, List.take_append_of_le_length (by rw [beats_len]; omega)]
      exact ih (by omega)
theorem beats_at (b f g : Int) {i k : Nat} (h : i < k) : (beats b f g k)[i]? = some ((pst b f g (i + 1)).1, !decide ((pst b f g (i + 1)).1 - (pst b f g i).2.1 < f + (pst b f g i).2.2.1 * g)) := by
  have h1 := beats_pre b f g (show i + 1 ≤ k by omega)
  have h2 : ((beats b f g k).take (i + 1))[i]? = (beats b f g k)[i]? := by rw [List.getElem?_take, if_pos (by omega)]
  rw [← h2, h1, beats_succ, List.getElem?_append_right (by rw [beats_len]; exact Nat.le_refl _), beats_len, Nat.sub_self]
  rfl
/-- what is held back of the clearing, and how often it came -/
theorem pst_last {b f g : Int} (hb : 1 ≤ b) : ∀ k : Nat, 0 ≤ (pst b f g k).2.1 ∧ (pst b f g k).2.1 ≤ (pst b f g k).1 ∧ 0 ≤ (pst b f g k).2.2.1 ∧ (pst b f g k).2.2.1 ≤ k := by
  intro k
  induction k with
  | zero => exact ⟨Int.le_refl _, Int.le_refl _, Int.le_refl _, Int.le_refl _⟩
  | succ k ih =>
    obtain ⟨h1, h2, h3, h4⟩ := ih
    have hs := pst_step (f := f) (g := g) hb k
    have e1 : (pst b f g (k + 1)).2.1 = cond (!decide ((pst b f g (k + 1)).1 - (pst b f g k).2.1 < f + (pst b f g k).2.2.1 * g)) (pst b f g (k + 1)).1 (pst b f g k).2.1 := rfl
    have e2 : (pst b f g (k + 1)).2.2.1 = cond (!decide ((pst b f g (k + 1)).1 - (pst b f g k).2.1 < f + (pst b f g k).2.2.1 * g)) ((pst b f g k).2.2.1 + 1) (pst b f g k).2.2.1 := rfl
    rw [e1, e2]
    cases (!decide ((pst b f g (k + 1)).1 - (pst b f g k).2.1 < f + (pst b f g k).2.2.1 * g)) with
    | true => simp only [cond_true]; omega
    | false => simp only [cond_false]; omega
def bcells (l : List (Int × Bool)) : List Value := l.flatMap fun x => [.int .i64 x.1, .bool x.2]
theorem bcells_app (l m : List (Int × Bool)) : bcells (l ++ m) = bcells l ++ bcells m := List.flatMap_append ..
theorem bcells_len : ∀ l : List (Int × Bool), (bcells l).length = l.length * 2 := by
  intro l
  induction l with
  | nil => rfl
  | cons x l ih => show (_ ++ bcells l).length = _; rw [List.length_append, ih, List.length_cons]; simp; omega
theorem bcells_at : ∀ {l : List (Int × Bool)} {i : Nat} {x : Int × Bool}, l[i]? = some x → (bcells l)[i * 2]? = some (.int .i64 x.1) ∧ (bcells l)[i * 2 + 1]? = some (.bool x.2) := by
  intro l
  induction l with
  | nil => intro i x h; simp at h
  | cons y l ih =>
    intro i x h
    cases i with
    | zero => simp at h; subst h; exact ⟨rfl, rfl⟩
    | succ i =>
      have := ih (i := i) (x := x) (by simpa using h)
      rw [show (i + 1) * 2 = i * 2 + 2 by omega]
      exact this
theorem beats_succ_cells {b f g : Int} {k : Nat} {c : Bool} (h : c = !decide ((pst b f g (k + 1)).1 - (pst b f g k).2.1 < f + (pst b f g k).2.2.1 * g)) :
    bcells (beats b f g (k + 1)) = bcells (beats b f g k) ++ [.int .i64 (pst b f g (k + 1)).1, .bool c] := by
  rw [beats_succ, bcells_app, h]; rfl
theorem pst_cl {b f g : Int} {k : Nat} {c : Bool} (h : c = !decide ((pst b f g (k + 1)).1 - (pst b f g k).2.1 < f + (pst b f g k).2.2.1 * g)) : (pst b f g (k + 1)).2.1 = cond c (pst b f g (k + 1)).1 (pst b f g k).2.1 := by rw [h]; rfl
theorem pst_ct {b f g : Int} {k : Nat} {c : Bool} (h : c = !decide ((pst b f g (k + 1)).1 - (pst b f g k).2.1 < f + (pst b f g k).2.2.1 * g)) : (pst b f g (k + 1)).2.2.1 = cond c ((pst b f g k).2.2.1 + 1) (pst b f g k).2.2.1 := by rw [h]; rfl
end Go.Proofs.Ytkpoagdhekimpaa.Pace
