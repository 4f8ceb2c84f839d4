/- TrailScript: every script of calls of two trails in turns. -/
import Derived.Test.YtioaaeianjgaoaaStep2
set_option linter.unusedVariables false
set_option linter.unusedSimpArgs false
set_option maxRecDepth 100000
namespace Go.Proofs.Ytioaaeianjgaoaa.Trail
open Go Go.Proofs.Ytioaaeianjgaoaa.Vc Go.Proofs.Ytioaaeianjgaoaa.T

section
variable {n : Nat} {w : World} {T : TI} {M : MI} {R : List E} {L : List Int}
def Yes (w : World) (v : Value) (w' : World) : Prop := v = .bool true ∧ Keep None w w'
theorem whole35 (h : B2 n w T M R L) : Calls Try.prog 35 #[Pt T.t, Pt M.m] w fun e w' => e = .returned (.bool true) ∧ Keep None w w' := by
  refine (V35_calls (some ⟨T.t, 0, none⟩) (some ⟨M.m, 0, none⟩) w (Yes w) ?_).mono fun e w' ⟨v, he, hv, hk⟩ => ⟨by rw [he, hv], hk⟩
  unfold V35
  refine cl_of ok10 h.tr.lits fun e w1 ⟨v, he, hf, k1⟩ => ?_
  have hf' := hf
  obtain ⟨p, c, hv, _, _⟩ := hf
  refine ⟨p, _, c, he.trans (congrArg Ending.returned hv), ?_⟩
  have h1 := h.keep0 k1
  refine cl_of ok31 (lits31 h1.mr h.rlen) fun e w2 ⟨v2, he2, hf2, k2⟩ => ?_
  have hf2' := hf2
  obtain ⟨p2, c2, hv2, _, _⟩ := hf2
  refine ⟨p2, _, c2, he2.trans (congrArg Ending.returned hv2), ?_⟩
  refine cl_of ok19 (same19 (hf'.slL hv h.wfL k2) (hf2'.slL hv2 h.wfL (Keep.refl _ _))) fun e w3 ⟨he3, k3⟩ => ⟨_, he3, ?_⟩
  rw [decide_eq_true (rfl : lits R = lits R)]
  have h3 := (h1.keep0 k2).keep0 k3
  refine gd_t rfl (cl_of ok11 h3.tr.marks fun e w4 ⟨v, he, hf, k4⟩ => ?_)
  have hf' := hf
  obtain ⟨p, c, hv, _, _⟩ := hf
  refine ⟨p, _, c, he.trans (congrArg Ending.returned hv), ?_⟩
  have h4 := h3.keep0 k4
  refine gd_t rfl (cl_of ok32 (marks32 h4.mr h.rlen) fun e w5 ⟨v2, he2, hf2, k5⟩ => ?_)
  rw [h.tr.st.marks] at hf2
  have hf2' := hf2
  obtain ⟨p2, c2, hv2, _, _⟩ := hf2
  refine ⟨p2, _, c2, he2.trans (congrArg Ending.returned hv2), ?_⟩
  refine gd_t rfl (cl_of ok19 (same19 (hf'.slL hv h.wfM k5) (hf2'.slL hv2 h.wfM (Keep.refl _ _))) fun e w6 ⟨he3, k6⟩ => ⟨_, he3, ?_⟩)
  rw [decide_eq_true (rfl : L = L)]
  have h6 := (h4.keep0 k5).keep0 k6
  refine gd_t rfl (cl_of ok13 h6.tr.level fun e w7 ⟨he, hw⟩ => ⟨_, he, ?_⟩)
  subst hw
  refine gd_t rfl (cl_of ok48 (level48 h6.mr) fun e w8 ⟨he, hw⟩ => ⟨_, he, ?_⟩)
  subst hw
  exact ⟨by simp, ((((k1.then0 k2).then0 k3).then0 k4).then0 k5).then0 k6⟩
end

/-- the calls of a script, wherever they lie -/
def OpL (w : World) (sp : Option Addr) (n : Nat) : Prop := ∀ i : Nat, i < n → ∃ (a : Addr) (on kd x y : Int) (p : Option Addr) (nc c : Nat) (cs : List Int), sp = some a ∧
  w.cell? ((a.add (i * 5)).add 0) = some (I on) ∧ w.cell? ((a.add (i * 5)).add 1) = some (I kd) ∧ w.cell? ((a.add (i * 5)).add 2) = some (I x) ∧ w.cell? ((a.add (i * 5)).add 3) = some (I y) ∧
  w.cell? ((a.add (i * 5)).add 4) = some (.slice p nc c) ∧ i64 on ∧ i64 kd ∧ i64 x ∧ i64 y ∧ SlL w p nc cs
/-- two trails with the document's, apart from one another -/
structure Two (w0 w : World) (b2 b4 b6 : Nat) (args : List Value) (n0 n1 : Nat) (T0 T1 : TI) (M0 M1 : MI) (R0 R1 : List E) (L0 L1 : List Int) : Prop where
  k : Keep None w0 w
  z : b2 < w.heap.size ∧ b4 < w.heap.size ∧ b6 < w.heap.size
  a : Blk w b2 args 54
  x : Blk w b4 [Pt T0.t, Pt T1.t] 65
  y : Blk w b6 [Pt M0.m, Pt M1.m] 66
  p0 : B2 n0 w T0 M0 R0 L0
  p1 : B2 n1 w T1 M1 R1 L1
  d0 : ∀ i, FF T0 M0 i → w0.heap.size ≤ i ∧ ¬ FF T1 M1 i ∧ i ≠ b2 ∧ i ≠ b4 ∧ i ≠ b6
  d1 : ∀ i, FF T1 M1 i → w0.heap.size ≤ i ∧ ¬ FF T0 M0 i ∧ i ≠ b2 ∧ i ≠ b4 ∧ i ≠ b6
section
variable {w0 w : World} {b2 b4 b6 : Nat} {args : List Value} {n0 n1 : Nat} {T0 T1 : TI} {M0 M1 : MI} {R0 R1 : List E} {L0 L1 : List Int}
theorem Two.keep0 {w' : World} (h : Two w0 w b2 b4 b6 args n0 n1 T0 T1 M0 M1 R0 R1 L0 L1) (hk : Keep None w w') : Two w0 w' b2 b4 b6 args n0 n1 T0 T1 M0 M1 R0 R1 L0 L1 :=
  ⟨h.k.then0 hk, by have := hk.size; have := h.z; omega, h.a.keep0 hk, h.x.keep0 hk, h.y.keep0 hk, h.p0.keep0 hk, h.p1.keep0 hk, h.d0, h.d1⟩
theorem Two.next0 {w' : World} (h : Two w0 w b2 b4 b6 args n0 n1 T0 T1 M0 M1 R0 R1 L0 L1) (hn : Next n0 w T0 M0 w') : ∃ T0' M0' R0' L0', Two w0 w' b2 b4 b6 args n0 n1 T0' T1 M0' M1 R0' R1 L0' L1 := by
  obtain ⟨k, T', M', R', L', e1, e2, cc, d⟩ := hn
  have hz := h.z
  have hs := k.size
  have hw := h.k.size
  refine ⟨T', M', R', L', h.k.trans k fun i hi hh => by have := (h.d0 i hh).1; omega, by omega, h.a.keep k fun hh => (h.d0 _ hh).2.2.1 rfl, ?_, ?_, d, h.p1.keep k fun i hi hh => (h.d0 i hh).2.1 hi, ?_, ?_⟩
  · rw [e1]; exact h.x.keep k fun hh => (h.d0 _ hh).2.2.2.1 rfl
  · rw [e2]; exact h.y.keep k fun hh => (h.d0 _ hh).2.2.2.2 rfl
  · intro i hi
    rcases cc i hi with hh | hh
    · exact h.d0 i hh
    · exact ⟨by omega, fun h1 => by have := h.p1.lt i h1; omega, by omega, by omega, by omega⟩
  · intro i hi
    have := h.d1 i hi
    refine ⟨this.1, fun hh => ?_, this.2.2⟩
    rcases cc i hh with h2 | h2
    · exact this.2.1 h2
    · have := h.p1.lt i hi; omega
theorem Two.next1 {w' : World} (h : Two w0 w b2 b4 b6 args n0 n1 T0 T1 M0 M1 R0 R1 L0 L1) (hn : Next n1 w T1 M1 w') : ∃ T1' M1' R1' L1', Two w0 w' b2 b4 b6 args n0 n1 T0 T1' M0 M1' R0 R1' L0 L1' := by
  obtain ⟨k, T', M', R', L', e1, e2, cc, d⟩ := hn
  have hz := h.z
  have hs := k.size
  have hw := h.k.size
  refine ⟨T', M', R', L', h.k.trans k fun i hi hh => by have := (h.d1 i hh).1; omega, by omega, h.a.keep k fun hh => (h.d1 _ hh).2.2.1 rfl, ?_, ?_, h.p0.keep k fun i hi hh => (h.d1 i hh).2.1 hi, d, ?_, ?_⟩
  · rw [e1]; exact h.x.keep k fun hh => (h.d1 _ hh).2.2.2.1 rfl
  · rw [e2]; exact h.y.keep k fun hh => (h.d1 _ hh).2.2.2.2 rfl
  · intro i hi
    have := h.d0 i hi
    refine ⟨this.1, fun hh => ?_, this.2.2⟩
    rcases cc i hh with h2 | h2
    · exact this.2.1 h2
    · have := h.p0.lt i hi; omega
  · intro i hi
    rcases cc i hi with hh | hh
    · exact h.d1 i hh
    · exact ⟨by omega, fun h1 => by have := h.p0.lt i h1; omega, by omega, by omega, by omega⟩
end
end Go.Proofs.Ytioaaeianjgaoaa.Trail
