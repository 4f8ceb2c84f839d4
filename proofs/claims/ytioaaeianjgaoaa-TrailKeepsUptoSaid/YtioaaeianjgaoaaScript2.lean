/- TrailScript: the law's walk. -/
import Derived.Test.YtioaaeianjgaoaaScript
set_option linter.unusedVariables false
set_option linter.unusedSimpArgs false
set_option maxRecDepth 100000
namespace Go.Proofs.Ytioaaeianjgaoaa.Trail
open Go Go.Proofs.Ytioaaeianjgaoaa.Vc Go.Proofs.Ytioaaeianjgaoaa.T

theorem B2.new {n : Nat} {w0 w : World} {T : TI} {M : MI} {a b : Int} (hT : TRep w T [] [] (List.replicate n 0) (List.replicate n (0, 0))) (hM : MRep w M n [] 0) (hd : ∀ i, T.F i → ¬ M.F i) : B2 n w T M [] [] :=
  ⟨⟨_, _, hT, .nil, by simp, by simp, fun v h1 h2 => by rw [getD_rep]; rfl, fun e he => by cases he⟩, hM, hd⟩
/-- the trails made so far -/
def Made (w3 w : World) (k : Nat) (xs ys : List Value) (nn : Nat → Nat) (TT : Nat → TI) (MM : Nat → MI) : Prop :=
  ∀ j, j < k → xs[j]? = some (Pt (TT j).t) ∧ ys[j]? = some (Pt (MM j).m) ∧ B2 (nn j) w (TT j) (MM j) [] [] ∧ ∀ i, FF (TT j) (MM j) i → w3.heap.size ≤ i ∧ ∀ j', j' < j → ¬ FF (TT j') (MM j') i

theorem law8 (v0 v1 : Int) (sp : Option Addr) (n c : Nat) (w : World) (hv0 : i64 v0) (hv1 : i64 v1) (hn : n ≤ 9223372036854775807) (hS : OpL w sp n) :
    Calls Try.prog 8 #[.agg #[I v0, I v1, .slice sp n c]] w fun e w' => e = .returned (.bool true) ∧ RowKit.Below w.heap.size w w' := by
  refine (V8_calls v0 v1 sp n c w (Yes w) ?_).mono fun e w' ⟨v, he, hv, hk⟩ => ⟨by rw [he, hv], hk.below0⟩
  unfold V8
  refine alc_at fun b2 w1 hb2 hA k1 => alc_at fun b4 w2 hb4 hX k2 => alc_at fun b6 w3 hb6 hY k3 => ?_
  have l1 := hA.lt
  have l2 := hX.lt
  have l3 := hY.lt
  have z1 := k1.size
  have z2 := k2.size
  have z3 := k3.size
  simp only [add_mk, Nat.zero_add, Nat.add_zero]
  refine lp_of (fun s w4 => ∃ (k : Nat) (xs ys : List Value) (nn : Nat → Nat) (TT : Nat → TI) (MM : Nat → MI), s.1 = k ∧ k ≤ 2 ∧ xs.length = 2 ∧ ys.length = 2 ∧ Keep None w w4 ∧ w3.heap.size ≤ w4.heap.size ∧
      Blk w4 b2 [I v0, I v1, .slice sp n c] 54 ∧ Blk w4 b4 xs 65 ∧ Blk w4 b6 ys 66 ∧ Made w3 w4 k xs ys nn TT MM) (fun s _ => (2 - s.1).toNat)
    ⟨0, _, _, fun _ => 0, fun _ => ⟨0, 0, 0, none, 0, none, 0⟩, fun _ => ⟨0, none, 0⟩, rfl, by omega, rfl, rfl, (k1.then0 k2).then0 k3, Nat.le_refl _, (hA.keep0 k2).keep0 k3, hX.keep0 k3, hY, fun j hj => by omega⟩ ?_
  rintro ⟨k', ⟨⟩⟩ w4 ⟨k, xs, ys, nn, TT, MM, rfl, hk2, lx, ly, hK4, z4, hA4, hX4, hY4, hmade⟩
  simp only []
  refine pif_of (fun hlt => ?_) fun hge => ?_
  · have hlt : k < 2 := by simp at hlt; omega
    have hvk : ∃ v, [I v0, I v1, Value.slice sp n c][((k : Nat) : Int).toNat]? = some (I v) ∧ i64 v := by
      rw [Int.toNat_natCast]
      rcases (by omega : k = 0 ∨ k = 1) with rfl | rfl
      · exact ⟨v0, rfl, hv0⟩
      · exact ⟨v1, rfl, hv1⟩
    obtain ⟨v, hv, hvr⟩ := hvk
    refine ixA_of1 (by omega) (by omega) (ldI_of (x := v) (by rw [hA4.cell]; exact hv) ?_)
    -- behind the two that were made
    have fin : ∀ (w7 : World) (m : Nat) (T : TI) (M : MI), Keep None w4 w7 → B2 m w7 T M [] [] → (∀ i, FF T M i → w4.heap.size ≤ i) →
        ixA (some (⟨b4, 0, none⟩ : Addr)) 2 (k : Int) 1 fun p42 =>
        st w7 (p42.add 0) (.pointer (some ⟨T.t, 0, none⟩)) fun w10 =>
        ixA (some (⟨b6, 0, none⟩ : Addr)) 2 (k : Int) 1 fun p44 =>
        st w10 (p44.add 0) (.pointer (some ⟨M.m, 0, none⟩)) fun w11 =>
        ((∃ (k_1 : Nat) (xs ys : List Value) (nn : Nat → Nat) (TT : Nat → TI) (MM : Nat → MI), IntKind.wrap .i64 ((k : Int) + 1) = k_1 ∧ k_1 ≤ 2 ∧ xs.length = 2 ∧ ys.length = 2 ∧ Keep None w w11 ∧ w3.heap.size ≤ w11.heap.size ∧
          Blk w11 b2 [I v0, I v1, .slice sp n c] 54 ∧ Blk w11 b4 xs 65 ∧ Blk w11 b6 ys 66 ∧ Made w3 w11 k_1 xs ys nn TT MM) ∧ (2 - IntKind.wrap .i64 ((k : Int) + 1)).toNat < (2 - (k : Int)).toNat) := by
      intro w7 m T M k7 hB hF
      have z7 := k7.size
      refine ixA_of1 (by omega) (by omega) ?_
      simp only [add_mk, Nat.add_zero, Int.toNat_natCast]
      refine st_of (hX4.keep0 k7) (by omega) rfl fun w10 h10 k10 s10 => ?_
      refine ixA_of1 (by omega) (by omega) ?_
      simp only [add_mk, Nat.add_zero, Int.toNat_natCast]
      refine st_of ((hY4.keep0 k7).keep1 k10 (by omega)) (by omega) rfl fun w11 h11 k11 s11 => ?_
      have ew : IntKind.wrap .i64 ((k : Int) + 1) = ((k + 1 : Nat) : Int) := by rw [IntKind.wrap_i64]; omega
      rw [ew]
      have kk : ∀ {i}, w3.heap.size ≤ i → ¬ One b4 i ∧ ¬ One b6 i := fun h => ⟨fun e => by have e : _ = b4 := e; omega, fun e => by have e : _ = b6 := e; omega⟩
      refine ⟨⟨k + 1, _, _, fun j => if j = k then m else nn j, fun j => if j = k then T else TT j, fun j => if j = k then M else MM j, rfl, by omega, by rw [List.length_set]; exact lx, by rw [List.length_set]; exact ly,
        ((hK4.then0 k7).then1 k10 (by omega)).then1 k11 (by omega), by omega, ((hA4.keep0 k7).keep1 k10 (by omega)).keep1 k11 (by omega), h10.keep1 k11 (by omega), h11, ?_⟩, by omega⟩
      intro j hj
      by_cases hjk : j = k
      · subst hjk
        simp only [if_pos]
        refine ⟨?_, ?_, ?_, ?_⟩
        · rw [List.getElem?_set, if_pos rfl, if_pos (by omega)]
        · rw [List.getElem?_set, if_pos rfl, if_pos (by omega)]
        · exact (hB.keep k10 fun i hi => (kk (by have := hF i hi; omega)).1).keep k11 fun i hi => (kk (by have := hF i hi; omega)).2
        · intro i hi
          refine ⟨by have := hF i hi; omega, fun j' hj' hh => ?_⟩
          rw [if_neg (by omega), if_neg (by omega)] at hh
          have := (hmade j' hj').2.2.1.lt i hh
          have := hF i hi
          omega
      · obtain ⟨g1, g2, g3, g4⟩ := hmade j (by omega)
        simp only [if_neg hjk]
        refine ⟨?_, ?_, ?_, ?_⟩
        · rw [List.getElem?_set, if_neg (Ne.symm hjk)]; exact g1
        · rw [List.getElem?_set, if_neg (Ne.symm hjk)]; exact g2
        · exact ((g3.keep0 k7).keep k10 fun i hi => (kk (g4 i hi).1).1).keep k11 fun i hi => (kk (g4 i hi).1).2
        · intro i hi
          refine ⟨(g4 i hi).1, fun j' hj' hh => ?_⟩
          rw [if_neg (by omega), if_neg (by omega)] at hh
          exact (g4 i hi).2 j' hj' hh
    refine cl_of ok9 (new9 v w4) fun e w5 ⟨r1, he1, k5, hr1⟩ => ?_
    have hA5 := hA4.keep0 k5
    have z5 := k5.size
    rcases hr1 with ⟨hno, rfl⟩ | ⟨hin, T, hF, rfl, hT⟩
    · refine ⟨_, _, he1, ixA_of1 (by omega) (by omega) (ldI_of (x := v) (by rw [hA5.cell]; exact hv) ?_)⟩
      refine cl_of ok27 (new27 v w5) fun e w6 ⟨r2, he2, k6, hr2⟩ => ?_
      rcases hr2 with ⟨_, rfl⟩ | ⟨hin, _⟩
      · refine ⟨_, _, he2, pif_f rfl (jn_of (pif_t rfl ?_))⟩
        have z6 := k6.size
        refine cl_of ok9 (new9 4 w6) fun e w8 ⟨r3, he3, k8, hr3⟩ => ?_
        rcases hr3 with ⟨hno, _⟩ | ⟨_, T, hF, rfl, hT⟩
        · omega
        refine ⟨_, _, he3, ?_⟩
        have z8 := k8.size
        refine cl_of ok27 (new27 4 w8) fun e w9 ⟨r4, he4, k9, hr4⟩ => ?_
        rcases hr4 with ⟨hno, _⟩ | ⟨_, M, hG, rfl, hM⟩
        · omega
        refine ⟨_, _, he4, pif_f rfl ?_⟩
        refine fin w9 _ T M (((k5.then0 k6).then0 k8).then0 k9) (B2.new (w0 := w9) (a := 0) (b := 0) (hT.keep k9 fun _ _ h => h) hM fun i hi hm => ?_) fun i hi => ?_
        · have := hT.lt i hi; have := hG i hm; omega
        · rcases hi with hi | hi
          · have := hF i hi; omega
          · have := hG i hi; omega
      · exact absurd hin hno
    · refine ⟨_, _, he1, ixA_of1 (by omega) (by omega) (ldI_of (x := v) (by rw [hA5.cell]; exact hv) ?_)⟩
      refine cl_of ok27 (new27 v w5) fun e w6 ⟨r2, he2, k6, hr2⟩ => ?_
      rcases hr2 with ⟨hno, _⟩ | ⟨_, M, hG, rfl, hM⟩
      · exact absurd hin hno
      refine ⟨_, _, he2, pif_f rfl (jn_of (pif_f rfl ?_))⟩
      refine fin w6 _ T M (k5.then0 k6) (B2.new (w0 := w6) (a := 0) (b := 0) (hT.keep k6 fun _ _ h => h) hM fun i hi hm => ?_) fun i hi => ?_
      · have := hT.lt i hi; have := hG i hm; omega
      · rcases hi with hi | hi
        · exact hF i hi
        · have := hG i hi; omega
  · have hk : k = 2 := by simp at hge; omega
    subst hk
    obtain ⟨x0, y0, p0, d0⟩ := hmade 0 (by omega)
    obtain ⟨x1, y1, p1, d1⟩ := hmade 1 (by omega)
    match xs, lx, x0, x1 with
    | [_, _], _, x0, x1 =>
    match ys, ly, y0, y1 with
    | [_, _], _, y0, y1 =>
    injection x0 with x0; injection x1 with x1; injection y0 with y0; injection y1 with y1
    subst x0 x1 y0 y1
    have hTwo : Two w w4 b2 b4 b6 [I v0, I v1, .slice sp n c] (nn 0) (nn 1) (TT 0) (TT 1) (MM 0) (MM 1) [] [] [] [] :=
      ⟨hK4, by omega, hA4, hX4, hY4, p0, p1, fun i hi => ⟨by have := (d0 i hi).1; omega, fun hh => (d1 i hh).2 0 (by omega) hi, by have := (d0 i hi).1; omega, by have := (d0 i hi).1; omega, by have := (d0 i hi).1; omega⟩,
        fun i hi => ⟨by have := (d1 i hi).1; omega, (d1 i hi).2 0 (by omega), by have := (d1 i hi).1; omega, by have := (d1 i hi).1; omega, by have := (d1 i hi).1; omega⟩⟩
    refine lp_of (fun s w5 => ∃ (i : Nat) (T0 T1 : TI) (M0 M1 : MI) (R0 R1 : List E) (L0 L1 : List Int), s.1 = i ∧ i ≤ n ∧ Two w w5 b2 b4 b6 [I v0, I v1, .slice sp n c] (nn 0) (nn 1) T0 T1 M0 M1 R0 R1 L0 L1) (fun s _ => (n - s.1).toNat)
      ⟨0, _, _, _, _, _, _, _, _, rfl, Nat.zero_le _, hTwo⟩ ?_
    rintro ⟨i', ⟨⟩⟩ w5 ⟨i, T0, T1, M0, M1, R0, R1, L0, L1, rfl, hi, h2⟩
    simp only []
    refine ldC_of (h2.a.cell 2) (pif_of (fun hlt => ?_) fun hge => ?_)
    · have hlt : i < n := by simpa using hlt
      obtain ⟨a, on, kd, x, y, p, nc, cc, cs, rfl, c0, c1, c2, c3, c4, r0, r1, r2, r3, hcs⟩ := hS i hlt
      have hb : (a.add (i * 5)).block = a.block := by unfold Addr.add; split <;> rfl
      have kc : ∀ {wa : World} {q : Addr} {u : Value}, Keep None w wa → w.cell? q = some u → wa.cell? q = some u := fun hk hc => hk.cell hc fun h => h
      refine ldC_of (h2.a.cell 2) ⟨by omega, by omega, ?_⟩
      show ldI .i64 w5 ((a.add (((i : Nat) : Int).toNat * 5)).add 0) _
      rw [Int.toNat_natCast]
      refine ldI_of (kc h2.k c0) ?_
      refine cl_of ok23 (pick23 on 2 w5 r0 (by omega)) fun e w6 ⟨he, hw⟩ => ⟨_, he, ?_⟩
      subst hw
      have m1 := Int.emod_nonneg on (show (2 : Int) ≠ 0 by omega)
      have m2 := Int.emod_lt_of_pos on (show (0 : Int) < 2 by omega)
      have kd0 : Keep None w6 w6.drew := (Keep.refl _ _).drew
      have h2d := h2.keep0 kd0
      have ew : IntKind.wrap .i64 ((i : Int) + 1) = ((i + 1 : Nat) : Int) := by rw [IntKind.wrap_i64]; omega
      rw [ew]
      generalize w6.drew = w7 at *
      rcases (by omega : on % 2 = 0 ∨ on % 2 = 1) with ho | ho
      · rw [ho]
        refine ixA_of1 (by omega) (by omega) (ldP_of (h2d.x.cell 0) (ixA_of1 (by omega) (by omega) (ldP_of (h2d.y.cell 0) (ldC_of (h2d.a.cell 2) ⟨by omega, by omega, ?_⟩))))
        show ldI .i64 w7 ((a.add (((i : Nat) : Int).toNat * 5)).add 0) _
        rw [Int.toNat_natCast]
        refine ldI_of (kc h2d.k c0) (ldI_of (kc h2d.k c1) (ldI_of (kc h2d.k c2) (ldI_of (kc h2d.k c3) (ldC_of (kc h2d.k c4) ?_))))
        refine cl_of ok36 (step36 h2d.p0 r1 r2 r3 (hcs.keep0 h2d.k)) fun e w8 ⟨he, hN⟩ => ⟨_, he, pif_f rfl ?_⟩
        obtain ⟨T0', M0', R0', L0', h3⟩ := h2d.next0 hN
        exact ⟨⟨i + 1, _, _, _, _, _, _, _, _, rfl, hlt, h3⟩, by omega⟩
      · rw [ho]
        refine ixA_of1 (by omega) (by omega) (ldP_of (h2d.x.cell 1) (ixA_of1 (by omega) (by omega) (ldP_of (h2d.y.cell 1) (ldC_of (h2d.a.cell 2) ⟨by omega, by omega, ?_⟩))))
        show ldI .i64 w7 ((a.add (((i : Nat) : Int).toNat * 5)).add 0) _
        rw [Int.toNat_natCast]
        refine ldI_of (kc h2d.k c0) (ldI_of (kc h2d.k c1) (ldI_of (kc h2d.k c2) (ldI_of (kc h2d.k c3) (ldC_of (kc h2d.k c4) ?_))))
        refine cl_of ok36 (step36 h2d.p1 r1 r2 r3 (hcs.keep0 h2d.k)) fun e w8 ⟨he, hN⟩ => ⟨_, he, pif_f rfl ?_⟩
        obtain ⟨T0', M0', R0', L0', h3⟩ := h2d.next1 hN
        exact ⟨⟨i + 1, _, _, _, _, _, _, _, _, rfl, hlt, h3⟩, by omega⟩
    · refine ixA_of1 (by omega) (by omega) (ldP_of (h2.x.cell 0) (ixA_of1 (by omega) (by omega) (ldP_of (h2.y.cell 0) ?_)))
      refine cl_of ok35 (whole35 h2.p0) fun e w6 ⟨he, k6⟩ => ⟨_, he, ?_⟩
      have h3 := h2.keep0 k6
      refine gd_t rfl (ixA_of1 (by omega) (by omega) (gd_t rfl (ldP_of (h3.x.cell 1) (gd_t rfl (ixA_of1 (by omega) (by omega) (gd_t rfl (ldP_of (h3.y.cell 1) ?_)))))))
      refine gd_t rfl (cl_of ok35 (whole35 h3.p1) fun e w7 ⟨he, k7⟩ => ⟨_, he, ?_⟩)
      exact ⟨rfl, h3.k.then0 k7⟩
end Go.Proofs.Ytioaaeianjgaoaa.Trail
