/- begun and live: a trail that a script has made, and one that takes a decision and an implied literal. -/
import Derived.Test.YtioaaeianjgaoaaAct
set_option linter.unusedVariables false
set_option linter.unusedSimpArgs false
set_option maxRecDepth 100000
namespace Go.Proofs.Ytioaaeianjgaoaa.Trail
open Go Go.Proofs.Ytioaaeianjgaoaa.Vc Go.Proofs.Ytioaaeianjgaoaa.T

theorem Tr.new {n : Nat} {w : World} {T : TI} (hT : TRep w T [] [] (List.replicate n 0) (List.replicate n (0, 0))) : Tr n w T [] [] :=
  ⟨_, _, hT, .nil, by simp, by simp, fun v h1 h2 => by rw [getD_rep]; rfl, fun e he => by cases he⟩
def runA (n : Nat) (ops : List (Int × Int × Int)) : List E × List Int := ops.foldl (stepA n 0) ([], [])
def Begun (v0 : Int) (ops : List (Int × Int × Int)) (w : World) (v : Value) (w' : World) : Prop :=
  Keep None w w' ∧ ∃ T : TI, v = Pt T.t ∧ (∀ i, T.F i → w.heap.size ≤ i) ∧ Tr (v0 % 41).toNat w' T (runA (v0 % 41).toNat ops).1 (runA (v0 % 41).toNat ops).2
theorem begun17 {w : World} {v0 : Int} {sp : Option Addr} {m c : Nat} {ops : List (Int × Int × Int)} (hv : i64 v0) (ho : OpD w sp m ops) :
    Calls Try.prog 17 #[I v0, .slice sp m c] w fun e w' => ∃ v, e = .returned v ∧ Begun v0 ops w v w' := by
  refine V17_calls v0 sp m c w (Begun v0 ops w) ?_
  unfold V17
  have m1 := Int.emod_nonneg v0 (show (41 : Int) ≠ 0 by omega)
  have m2 := Int.emod_lt_of_pos v0 (show (0 : Int) < 41 by omega)
  refine cl_of ok23 (pick23 v0 41 w hv (by omega)) fun e w1 ⟨he, hw⟩ => ⟨_, he, ?_⟩
  subst hw
  refine cl_of ok9 (new9 _ w1) fun e w2 ⟨r, he, k2, hr⟩ => ?_
  rcases hr with ⟨hno, _⟩ | ⟨_, T, hF, rfl, hT⟩
  · omega
  refine ⟨_, _, he, pif_f rfl ?_⟩
  have hT2 := Tr.new hT
  have ho2 : OpD w2 sp m ops := ⟨ho.len, ho.small, fun i hi => by
    obtain ⟨a, e, c1, c2, c3, r⟩ := ho.at' i hi
    exact ⟨a, e, k2.cell c1 fun h => h, k2.cell c2 fun h => h, k2.cell c3 fun h => h, r⟩⟩
  have hsp : ∀ i, ob sp i → ¬ T.F i ∨ m = 0 := fun i hi => by
    by_cases hm : m = 0
    · exact Or.inr hm
    · obtain ⟨a, e, c1, _⟩ := ho.at' 0 (by omega)
      obtain ⟨a', e', rfl⟩ := hi
      rw [e] at e'
      injection e' with e'
      subst e'
      have := cell_lt c1
      have hb : ((a.add (0 * 5)).add 1).block = a.block := by unfold Addr.add; split <;> split <;> rfl
      rw [hb] at this
      exact Or.inl fun h => by have := hF _ h; omega
  refine cl_of ok22 (act22 hT2 ho2 (fun hm i hi => (hsp i hi).resolve_right (by omega)) (fl := 0) ⟨by omega, by omega⟩) fun e w3 ⟨he, k3, T', m3, hT3⟩ => ⟨he, ?_⟩
  refine ⟨k2.trans k3 fun i hi h => by have := hF i h; omega, T', ?_, fun i hi => ?_, hT3⟩
  · show Pt T.t = Pt T'.t
    rw [m3.1]
  · rcases m3.2 i hi with h | h
    · exact hF i h
    · have := k2.size; omega
def Yes2 (w : World) (v : Value) (w' : World) : Prop := v = .bool true ∧ Keep None w w'
theorem live21 (w : World) : Calls Try.prog 21 #[] w fun e w' => e = .returned (.bool true) ∧ Keep None w w' := by
  refine (V21_calls w (Yes2 w) ?_).mono fun e w' ⟨v, he, hv, hk⟩ => ⟨by rw [he, hv], hk⟩
  unfold V21
  refine cl_of ok9 (new9 2 w) fun e w1 ⟨r, he, k1, hr⟩ => ?_
  rcases hr with ⟨hno, _⟩ | ⟨_, T, hF, rfl, hT⟩
  · omega
  refine ⟨_, _, he, ?_⟩
  have hT1 : Tr 2 w1 T [] [] := Tr.new hT
  have old : ∀ {wa wb : World} {T1 : TI}, Keep None w wa → (∀ i, T1.F i → w.heap.size ≤ i) → Keep T1.F wa wb → Keep None w wb := fun h1 h2 h3 => h1.trans h3 fun i hi hh => by have := h2 i hh; omega
  refine gd_t rfl (cl_of ok18 (hT1.decide (-2) (by omega)) fun e w2 ⟨he, k2, T2, m2, hT2⟩ => ⟨_, he, ?_⟩)
  have e1 : freeA 2 [] (-2) = 0 := by decide +kernel
  rw [e1] at hT2 ⊢
  have f2 : ∀ i, T2.F i → w.heap.size ≤ i := fun i hi => by
    rcases m2.2 i hi with h | h
    · exact hF i h
    · have := k1.size; omega
  have K2 := old k1 hF k2
  have hp2 : Pt T.t = Pt T2.t := by rw [m2.1]
  have hI := hT2.imply 1 5 (by omega)
  rw [← hp2] at hI
  refine gd_t rfl (cl_of ok26 hI fun e w3 ⟨he, k3, T3, m3, hT3⟩ => ⟨_, he, ?_⟩)
  have e2 : implA 2 (if (0 : Int) = 0 then [] ++ [⟨-2, (([] : List Int).length + 1 : Nat), -1⟩] else []) 1 5 = 0 := by decide +kernel
  rw [e2] at hT3 ⊢
  have f3 : ∀ i, T3.F i → w.heap.size ≤ i := fun i hi => by
    rcases m3.2 i hi with h | h
    · exact f2 i h
    · have := k2.size; have := k1.size; omega
  have K3 := old K2 f2 k3
  have hp3 : Pt T.t = Pt T3.t := by rw [hp2, m3.1]
  refine pif_f rfl ?_
  have hT3' : Tr 2 w3 T3 [⟨-2, 1, -1⟩, ⟨1, 1, 5⟩] [0] := hT3
  have sub : ∀ {wb : World}, Keep None w3 wb → Tr 2 wb T3 [⟨-2, 1, -1⟩, ⟨1, 1, 5⟩] [0] := fun h => hT3'.keep0 h
  have hV := hT3'.value 2 (by omega)
  rw [← hp3] at hV
  refine cl_of ok14 hV fun e w4 ⟨he, k4⟩ => ⟨_, he, ?_⟩
  have q1 : valA 2 [⟨-2, 1, -1⟩, ⟨1, 1, 5⟩] 2 = -1 := by decide +kernel
  rw [q1]
  have hV2 := (sub k4).value 1 (by omega)
  rw [← hp3] at hV2
  refine gd_t rfl (cl_of ok14 hV2 fun e w5 ⟨he, k5⟩ => ⟨_, he, ?_⟩)
  have q2 : valA 2 [⟨-2, 1, -1⟩, ⟨1, 1, 5⟩] 1 = 1 := by decide +kernel
  rw [q2]
  have hL := (sub (k4.then0 k5)).level
  rw [← hp3] at hL
  refine gd_t rfl (cl_of ok13 hL fun e w6 ⟨he, hw⟩ => ⟨_, he, ?_⟩)
  subst hw
  have hR := (sub (k4.then0 k5)).reason 1 (by omega)
  rw [← hp3] at hR
  refine gd_t rfl (cl_of ok16 hR fun e w7 ⟨he, k7⟩ => ⟨_, he, ?_⟩)
  have q3 : reaA 2 [⟨-2, 1, -1⟩, ⟨1, 1, 5⟩] 1 = 5 := by decide +kernel
  rw [q3]
  exact ⟨rfl, ((K3.then0 k4).then0 k5).then0 k7⟩
end Go.Proofs.Ytioaaeianjgaoaa.Trail
