/- The calls of a script that change a trail: begun, act, live. -/
import Derived.Test.YtioaaeianjgaoaaScript2
set_option linter.unusedVariables false
set_option linter.unusedSimpArgs false
set_option maxRecDepth 100000
namespace Go.Proofs.Ytioaaeianjgaoaa.Trail
open Go Go.Proofs.Ytioaaeianjgaoaa.Vc Go.Proofs.Ytioaaeianjgaoaa.T

/-- one call -/
def stepA (n : Nat) (fl : Int) (S : List E × List Int) (o : Int × Int × Int) : List E × List Int :=
  if o.1 % 3 = 0 then (if freeA n S.1 o.2.1 = 0 then (S.1 ++ [⟨o.2.1, (S.2.length + 1 : Nat), -1⟩], S.2 ++ [(S.1.length : Int)]) else S)
  else if o.1 % 3 = 1 then (if implA n S.1 o.2.1 o.2.2 = 0 then (S.1 ++ [⟨o.2.1, S.2.length, o.2.2⟩], S.2) else S)
  else (if 0 ≤ (if o.2.1 < fl then fl else o.2.1) ∧ (if o.2.1 < fl then fl else o.2.1) ≤ S.2.length then (upto (if o.2.1 < fl then fl else o.2.1) S.1, S.2.take (if o.2.1 < fl then fl else o.2.1).toNat) else S)
/-- the calls' kinds and numbers -/
structure OpD (w : World) (sp : Option Addr) (n : Nat) (ops : List (Int × Int × Int)) : Prop where
  len : ops.length = n
  small : n ≤ 9223372036854775807
  at' : ∀ i : Nat, i < n → ∃ (a : Addr), sp = some a ∧ w.cell? ((a.add (i * 5)).add 1) = some (I (ops.getD i (0, 0, 0)).1) ∧ w.cell? ((a.add (i * 5)).add 2) = some (I (ops.getD i (0, 0, 0)).2.1) ∧
    w.cell? ((a.add (i * 5)).add 3) = some (I (ops.getD i (0, 0, 0)).2.2) ∧ i64 (ops.getD i (0, 0, 0)).1 ∧ i64 (ops.getD i (0, 0, 0)).2.1 ∧ i64 (ops.getD i (0, 0, 0)).2.2
section
variable {n : Nat} {w : World} {T : TI} {R : List E} {L : List Int}
def Act (n : Nat) (w : World) (T : TI) (S : List E × List Int) (w' : World) : Prop := Keep T.F w w' ∧ ∃ T', Moved w T T' ∧ Tr n w' T' S.1 S.2
def Act' (n : Nat) (w : World) (T : TI) (S : List E × List Int) (v : Value) (w' : World) : Prop := v = .tuple #[] ∧ Act n w T S w'
theorem act22 (h : Tr n w T R L) {sp : Option Addr} {m c : Nat} {ops : List (Int × Int × Int)} (ho : OpD w sp m ops) (hF : 0 < m → ∀ i, ob sp i → ¬ T.F i) {fl : Int} (hfl : i64 fl) :
    Calls Try.prog 22 #[Pt T.t, .slice sp m c, I fl] w fun e w' => e = .returned (.tuple #[]) ∧ Act n w T (ops.foldl (stepA n fl) (R, L)) w' := by
  refine (V22_calls (some ⟨T.t, 0, none⟩) sp m c fl w (Act' n w T (ops.foldl (stepA n fl) (R, L))) ?_).mono fun e w' ⟨v, he, hv, hk⟩ => ⟨by rw [he, hv], hk⟩
  unfold V22
  have hlen := ho.len
  refine lp_of (fun s w1 => ∃ (i : Nat) (T1 : TI) (S : List E × List Int), s.1 = i ∧ i ≤ m ∧ (ops.drop i).foldl (stepA n fl) S = ops.foldl (stepA n fl) (R, L) ∧ Keep T.F w w1 ∧ Moved w T T1 ∧ Tr n w1 T1 S.1 S.2) (fun s _ => (m - s.1).toNat)
    ⟨0, T, (R, L), rfl, Nat.zero_le _, rfl, Keep.refl _ _, Moved.refl _ _, h⟩ ?_
  rintro ⟨i', ⟨⟩⟩ w1 ⟨i, T1, S, rfl, hi, hgo, k1, m1, hT1⟩
  simp only []
  refine pif_of (fun hlt => ?_) fun hge => ?_
  · have hlt : i < m := by simpa using hlt
    obtain ⟨a, rfl, c1, c2, c3, r1, r2, r3⟩ := ho.at' i hlt
    have hpt : Pt T1.t = Pt T.t := by rw [m1.1]
    have ew : IntKind.wrap .i64 ((i : Int) + 1) = ((i + 1 : Nat) : Int) := by have := ho.small; rw [IntKind.wrap_i64]; omega
    have ed : ops.drop i = ops.getD i (0, 0, 0) :: ops.drop (i + 1) := by
      rw [List.drop_eq_getElem_cons (by omega), List.getD_eq_getElem?_getD, List.getElem?_eq_getElem (by omega)]; rfl
    rw [ed, List.foldl_cons] at hgo
    generalize ops.getD i (0, 0, 0) = o at *
    have hb : ∀ j, ((a.add (i * 5)).add j).block = a.block := fun j => by unfold Addr.add; split <;> split <;> rfl
    have kc : ∀ {wa : World} {j : Nat} {u : Value}, Keep T.F w wa → w.cell? ((a.add (i * 5)).add j) = some u → wa.cell? ((a.add (i * 5)).add j) = some u := fun hk hc =>
      hk.cell hc fun hh => by rw [hb] at hh; exact hF (by omega) a.block ⟨a, rfl, rfl⟩ hh
    have ixo : ∀ {K : Addr → Prop}, K (a.add (i * 5)) → ixA (some a) m (i : Int) 5 K := fun hK => ⟨by omega, by omega, by show nn (some a) _; rw [Int.toNat_natCast]; exact hK⟩
    rw [ew]
    -- behind the call
    have fin : ∀ {w3 : World} {S' : List E × List Int} {T2 : TI}, S' = stepA n fl S o → Keep T1.F w1 w3 → Moved w1 T1 T2 → Tr n w3 T2 S'.1 S'.2 →
        (∃ (i_1 : Nat) (T1 : TI) (S : List E × List Int), ((i + 1 : Nat) : Int) = i_1 ∧ i_1 ≤ m ∧ (ops.drop i_1).foldl (stepA n fl) S = ops.foldl (stepA n fl) (R, L) ∧ Keep T.F w w3 ∧ Moved w T T1 ∧ Tr n w3 T1 S.1 S.2) ∧ ((m : Int) - ((i + 1 : Nat) : Int)).toNat < ((m : Int) - (i : Int)).toNat := by
      intro w3 S' T2 hS hk hm hT
      refine ⟨⟨i + 1, T2, S', rfl, hlt, by rw [hS]; exact hgo, Keep.moved k1 m1 hk, m1.trans hm k1.size, hT⟩, by omega⟩
    refine ⟨fun _ w9 => ∃ (S' : List E × List Int) (T2 : TI), S' = stepA n fl S o ∧ Keep T1.F w1 w9 ∧ Moved w1 T1 T2 ∧ Tr n w9 T2 S'.1 S'.2, ?_, fun _ w9 ⟨S', T2, a1, a2, a3, a4⟩ => fin a1 a2 a3 a4⟩
    refine ixo (ldI_of (kc k1 c1) ?_)
    refine cl_of ok23 (pick23 o.1 3 w1 r1 (by omega)) fun e w2 ⟨he, hw⟩ => ⟨_, he, ?_⟩
    subst hw
    refine pif_of (fun h0 => ?_) fun h0 => ?_
    · have h0 : o.1 % 3 = 0 := by simpa using h0
      refine ixo (ldI_of (kc k1 c2) ?_)
      have hd := hT1.decide o.2.1 r2.1
      rw [hpt] at hd
      refine cl_of ok18 hd fun e w4 ⟨he, k4, T2, m4, hT4⟩ => ⟨_, he, stepA n fl S o, T2, rfl, k4, m4, ?_⟩
      unfold stepA
      rw [if_pos h0]
      by_cases hz : freeA n S.1 o.2.1 = 0
      · rw [if_pos hz, if_pos hz] at hT4
        rw [if_pos hz]; exact hT4
      · rw [if_neg hz, if_neg hz] at hT4
        rw [if_neg hz]; exact hT4
    have h0 : ¬ o.1 % 3 = 0 := by simpa using h0
    refine pif_of (fun h1 => ?_) fun h1 => ?_
    · have h1 : o.1 % 3 = 1 := by simpa using h1
      have kd := k1.drew
      refine ixo (ldI_of (kc kd c2) (ixo (ldI_of (kc kd c3) ?_)))
      have hd := hT1.drew.imply o.2.1 o.2.2 r2.1
      rw [hpt] at hd
      refine cl_of ok26 hd fun e w4 ⟨he, k4, T2, m4, hT4⟩ => ⟨_, he, stepA n fl S o, T2, rfl, ((Keep.refl T1.F w2).drew).trans k4 fun _ _ h => h, m4, ?_⟩
      unfold stepA
      rw [if_neg h0, if_pos h1]
      by_cases hz : implA n S.1 o.2.1 o.2.2 = 0
      · rw [if_pos hz] at hT4
        rw [if_pos hz]; exact hT4
      · rw [if_neg hz] at hT4
        rw [if_neg hz]; exact hT4
    · have h1 : ¬ o.1 % 3 = 1 := by simpa using h1
      refine ixo (ldI_of (kc k1 c2) ?_)
      -- the level that it goes back to
      have key : ∀ (q : Int), q = (if o.2.1 < fl then fl else o.2.1) → cl Try.prog 12 [.pointer (some ⟨T.t, 0, none⟩), .int .i64 q] w2 fun e37 w7 => ∃ (x35 : Option Addr) (x35n x35c : Nat), ∃ x36 : Int, e37 = Ending.returned (.tuple #[.slice x35 x35n x35c, .int .i64 x36]) ∧
          ∃ (S' : List E × List Int) (T2 : TI), S' = stepA n fl S o ∧ Keep T1.F w2 w7 ∧ Moved w2 T1 T2 ∧ Tr n w7 T2 S'.1 S'.2 := by
        intro q hq
        by_cases hr : 0 ≤ q ∧ q ≤ S.2.length
        · have hd := hT1.back hr.1 hr.2
          rw [hpt] at hd
          refine cl_of ok12 hd fun e w4 ⟨p, cc, he, hO, hf, k4, hT4⟩ => ⟨_, _, _, _, he, stepA n fl S o, T1, rfl, k4, Moved.refl _ _, ?_⟩
          unfold stepA
          rw [if_neg h0, if_neg h1, ← hq, if_pos hr]
          exact hT4
        · have hd := hT1.back_out (k := q) (by omega)
          rw [hpt] at hd
          refine cl_of ok12 hd fun e w4 ⟨he, hw⟩ => ⟨_, _, _, _, he, S, T1, ?_, by rw [hw]; exact Keep.refl _ _, Moved.refl _ _, by rw [hw]; exact hT1⟩
          unfold stepA
          rw [if_neg h0, if_neg h1, ← hq, if_neg hr]
      refine jn_of (pif_of (fun hq => ?_) fun hq => ?_)
      · have hq : o.2.1 < fl := by simpa using hq
        exact key fl (by rw [if_pos hq])
      · have hq : ¬ o.2.1 < fl := by simpa using hq
        exact key o.2.1 (by rw [if_neg hq])
  · have hge : i = m := by simp at hge; omega
    subst hge
    rw [← hlen, List.drop_length] at hgo
    refine ⟨rfl, k1, T1, m1, ?_⟩
    rw [← hgo]; exact hT1
end
end Go.Proofs.Ytioaaeianjgaoaa.Trail
