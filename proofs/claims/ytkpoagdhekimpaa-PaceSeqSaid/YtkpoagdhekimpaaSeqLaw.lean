/- PaceSeq: its walk. -/
import Derived.Test.YtkpoagdhekimpaaTSeq
import Derived.Test.YtkpoagdhekimpaaPlan
set_option linter.unusedVariables false
set_option linter.unusedSimpArgs false
set_option maxRecDepth 100000
namespace Go.Proofs.Ytkpoagdhekimpaa.Pace
open Go Go.Proofs.Ytkpoagdhekimpaa.Vc Go.Proofs.Ytkpoagdhekimpaa.T

def W6 (b2 b3 : Nat) (w3 : World) (R : Value → World → Prop) : Prop :=
    cl Try.prog 17 [] w3 fun e12 w5 => ∃ x11 : Value, e12 = Ending.returned (x11) ∧
    alc w5 [.nilFunc] 29 fun b13 w6 =>
    st w6 ((⟨b13, 0, none⟩ : Addr).add 0) (x11) fun w7 =>
    ldV w7 (⟨b13, 0, none⟩ : Addr) fun x15 =>
    isFn (x15) = true ∧
    pif (isNilF (x15)) (
      st w7 ((⟨b3, 0, none⟩ : Addr).add 0) (.bool false) fun w8 =>
      ldB w8 (⟨b3, 0, none⟩ : Addr) fun x17 =>
      R (.bool x17) w8) (
      alc w7 [.int .i64 0] 3 fun b19 w9 =>
      st w9 ((⟨b19, 0, none⟩ : Addr).add 0) (.int .i64 0) fun w10 =>
      ldV w10 (⟨b13, 0, none⟩ : Addr) fun x21 =>
      ∃ (g22 : FuncId) (g22b : Array Value), (x21 : Value) = .func (.func g22) #[] g22b ∧ fnOk Try.prog g22 = true ∧ 18 < 47 ∧
      rgs Try.prog g22 g22b w10 (fun f23 J24 J25 J26 => ∀ (k27 : Nat) (w11 : World), J24 k27 w11 →
        Keep (Oth w10.heap.size) w11 w11 ∧ ∀ w12 : World, Keep (Own2 w10.heap.size) w11 w12 → (∃ r, w12.heap[w10.heap.size + 1]? = some (.loop r)) →
        ldI .i64 w12 (⟨b19, 0, none⟩ : Addr) fun x30 =>
        st w12 ((⟨b19, 0, none⟩ : Addr).add 0) (.int .i64 (IntKind.wrap .i64 (x30 + 1))) fun w13 =>
        ldI .i64 w13 (⟨b19, 0, none⟩ : Addr) fun x32 =>
        cl Try.prog 16 [.int .i64 x32] w13 fun e34 w14 => ∃ x33 : Int, e34 = Ending.returned (.int .i64 x33) ∧
        pif ((f23 k27) != x33) (
          st w14 ((⟨b3, 0, none⟩ : Addr).add 0) (.bool false) fun w15 =>
          Keep (Oth w10.heap.size) w12 w15 ∧ J25 w15) (
          ldI .i64 w14 (⟨b19, 0, none⟩ : Addr) fun x37 =>
          pif ((Int.tmod x37 1000) == 7) (
            alc w14 [.int .i64 0] 3 fun b39 w16 =>
            st w16 ((⟨b39, 0, none⟩ : Addr).add 0) (.int .i64 0) fun w17 =>
            ldV w17 (⟨b13, 0, none⟩ : Addr) fun x41 =>
            ∃ (g42 : FuncId) (g42b : Array Value), (x41 : Value) = .func (.func g42) #[] g42b ∧ fnOk Try.prog g42 = true ∧ 29 < 47 ∧
            rgs1 Try.prog g42 g42b (w10.heap.size + 1) w17 (fun f43 J44 J45 J46 => ∀ (k47 : Nat) (w18 : World), J44 k47 w18 →
              Keep (Oth1 w17.heap.size) w18 w18 ∧ ∀ w19 : World, Keep (Vc.One w17.heap.size) w18 w19 →
              ldI .i64 w19 (⟨b39, 0, none⟩ : Addr) fun x50 =>
              st w19 ((⟨b39, 0, none⟩ : Addr).add 0) (.int .i64 (IntKind.wrap .i64 (x50 + 1))) fun w20 =>
              ldI .i64 w20 (⟨b39, 0, none⟩ : Addr) fun x52 =>
              cl Try.prog 16 [.int .i64 x52] w20 fun e54 w21 => ∃ x53 : Int, e54 = Ending.returned (.int .i64 x53) ∧
              pif ((f43 k47) != x53) (
                st w21 ((⟨b3, 0, none⟩ : Addr).add 0) (.bool false) fun w22 =>
                Keep (Oth1 w17.heap.size) w19 w22 ∧ J45 w22) (
                ldI .i64 w21 (⟨b39, 0, none⟩ : Addr) fun x57 =>
                pif (x57 == 9) (
                  Keep (Oth1 w17.heap.size) w19 w21 ∧ J46 2 w21) (
                  Keep (Oth1 w17.heap.size) w19 w21 ∧ J44 (k47 + 1) w21))) fun J45 J46 =>
            (∀ w23 : World, J45 w23 →
              Keep (Oth w10.heap.size) w12 w23 ∧ J25 w23) ∧
            (∀ w24 : World, J46 2 w24 →
              ldI .i64 w24 (⟨b39, 0, none⟩ : Addr) fun x59 =>
              pif (x59 != 9) (
                st w24 ((⟨b3, 0, none⟩ : Addr).add 0) (.bool false) fun w25 =>
                Keep (Oth w10.heap.size) w12 w25 ∧ J25 w25) (
                ldI .i64 w24 (⟨b19, 0, none⟩ : Addr) fun x62 =>
                ldI .i64 w24 (⟨b2, 0, none⟩ : Addr) fun x63 =>
                pif (decide (x62 > x63)) (
                  Keep (Oth w10.heap.size) w12 w24 ∧ J26 0 w24) (
                  Keep (Oth w10.heap.size) w12 w24 ∧ J24 (k27 + 1) w24))) ∧
            True) (
            ldI .i64 w14 (⟨b19, 0, none⟩ : Addr) fun x65 =>
            ldI .i64 w14 (⟨b2, 0, none⟩ : Addr) fun x66 =>
            pif (decide (x65 > x66)) (
              Keep (Oth w10.heap.size) w12 w14 ∧ J26 0 w14) (
              Keep (Oth w10.heap.size) w12 w14 ∧ J24 (k27 + 1) w14)))) fun J25 J26 =>
      (∀ w26 : World, J25 w26 → w26.heap[w10.heap.size]? = some (.deferred (some [])) →
        w26.heap[w10.heap.size]? = some (.deferred (some [])) ∧
        ldB (World.putObj w26 w10.heap.size (.deferred none)) (⟨b3, 0, none⟩ : Addr) fun x67 =>
        R (.bool x67) (World.putObj w26 w10.heap.size (.deferred none))) ∧
      (∀ w27 : World, J26 0 w27 → w27.heap[w10.heap.size]? = some (.deferred (some [])) →
        ldI .i64 w27 (⟨b19, 0, none⟩ : Addr) fun x69 =>
        ldI .i64 w27 (⟨b2, 0, none⟩ : Addr) fun x70 =>
        st w27 ((⟨b3, 0, none⟩ : Addr).add 0) (.bool (x69 == (IntKind.wrap .i64 (x70 + 1)))) fun w28 =>
        w28.heap[w10.heap.size]? = some (.deferred (some [])) ∧
        ldB (World.putObj w28 w10.heap.size (.deferred none)) (⟨b3, 0, none⟩ : Addr) fun x71 =>
        R (.bool x71) (World.putObj w28 w10.heap.size (.deferred none))) ∧
      True)
def Yes6 (w : World) (v : Value) (w' : World) : Prop := v = .bool true ∧ Keep None w w'
/-- behind k rounds -/
structure Q6 (w : World) (b2 b3 b13 b19 D : Nat) (N : Int) (i : Int) (W : World) : Prop where
  kp : Keep None w W
  sz : D + 2 ≤ W.heap.size
  n : Blk W b2 [I N] 3
  r : Blk W b3 [.bool false] 4
  s : Blk W b13 [.func (.func 27) #[] #[]] 29
  i : Blk W b19 [I i] 3
theorem Q6.keep {w : World} {b2 b3 b13 b19 D : Nat} {N i : Int} {W W' : World} {S : Nat → Prop} (h : Q6 w b2 b3 b13 b19 D N i W) (hk : Keep S W W') (hS : ∀ j, j < D → ¬ S j) (h2 : b2 < D) (h3 : b3 < D) (h13 : b13 < D) (h19 : b19 < D) (hw : w.heap.size ≤ D) : Q6 w b2 b3 b13 b19 D N i W' :=
  ⟨h.kp.trans hk fun j hj hs => absurd hs (hS j (by omega)), Nat.le_trans h.sz hk.size, h.n.keep hk (hS _ h2), h.r.keep hk (hS _ h3), h.s.keep hk (hS _ h13), h.i.keep hk (hS _ h19)⟩
theorem w6 {w w3 : World} {b2 b3 : Nat} {N : Int} (h0 : 0 ≤ N) (h1 : N ≤ 5000) (h2 : Blk w3 b2 [I N] 3) (h3 : Blk w3 b3 [.bool false] 4) (hne : b2 ≠ b3) (hk : Keep None w w3) (hb2 : w.heap.size ≤ b2) (hb3 : w.heap.size ≤ b3) : W6 b2 b3 w3 (Yes6 w) := by
  unfold W6
  refine cl_of ok17 (seqf17 w3) fun e w5 ⟨he, hw⟩ => ⟨_, he, ?_⟩
  subst hw
  have l2 := h2.lt
  have l3 := h3.lt
  refine alc_at fun b13 w6 hb13 h13 k6 => ?_
  simp only [add_mk, Nat.zero_add, Nat.add_zero]
  have l13 := h13.lt
  refine st_of h13 (by simp) rfl fun w7 h13 k7 e7 => ?_
  simp only [List.set_cons_zero] at h13
  refine ldV_of (h13.cell 0) ⟨rfl, pif_f rfl ?_⟩
  refine alc_at fun b19 w9 hb19 h19 k9 => ?_
  have l19 := h19.lt
  refine st_of h19 (by simp) rfl fun w10 h19 k10 e10 => ?_
  simp only [List.set_cons_zero] at h19
  have z6 := k6.size
  have z9 := k9.size
  have k10' : Keep None w7 w10 := k9.then1 k10 (by omega)
  have k7' : Keep None w5 w7 := k6.then1 k7 (by omega)
  have k510 := k7'.then0 k10'
  have h13 := h13.keep0 k10'
  refine ldV_of (h13.cell 0) ⟨27, #[], rfl, by kernel_rfl, by decide, ?_⟩
  obtain ⟨D, hD⟩ : ∃ D, D = w10.heap.size := ⟨_, rfl⟩
  rw [← hD]
  have c2 : b2 < D := by omega
  have c3 : b3 < D := by omega
  have c13 : b13 < D := by omega
  have c19 : b19 < D := by omega
  have zw := hk.size
  have cw : w.heap.size ≤ D := by omega
  have kk : ∀ {i : Int} {W W' : World}, Q6 w b2 b3 b13 b19 D N i W → Keep (Own2 D) W W' → Q6 w b2 b3 b13 b19 D N i W' := fun h hk' => h.keep hk' (fun j hj hs => by rcases hs with h | h <;> omega) c2 c3 c13 c19 cw
  have ex : rgs Try.prog 27 #[] w10 = rgs Try.prog 27 #[] w10 := rfl
  refine ⟨fun k => lub (k + 1), 5002, fun k W => (k : Int) ≤ N ∧ Q6 w b2 b3 b13 b19 D N k W, fun _ => False, fun _ W => Q6 w b2 b3 b13 b19 D N (N + 1) W,
    seq27 _ (by omega), ?_, ?_, fun _ _ h => h.elim, ?_, ?_, ?_, (fun _ h => h.elim), ?_, trivial⟩
  · rintro k W ⟨h, _⟩; omega
  · rw [← hD]; rintro k W W' ⟨h, hs⟩ hk'; exact ⟨h, kk hs hk'⟩
  · rw [← hD]; intro id W W' hs hk'; exact kk hs hk'
  · rw [← hD]
    intro W hW hsz
    exact ⟨h0, (hk.then0 k510).then0 hW, hsz, (h2.keep0 k510).keep0 hW, (h3.keep0 k510).keep0 hW, h13.keep0 hW, h19.keep0 hW⟩
  · rintro k W ⟨hle, hs⟩
    refine ⟨Keep.refl _ _, fun W2 hk2 hrec => ?_⟩
    have hs2 := kk hs hk2
    clear hs hk2
    refine ldI_of (hs2.i.cell 0) (st_of hs2.i (by simp) rfl fun W3 h3i k3 e3 => ?_)
    simp only [List.set_cons_zero] at h3i
    have ew : IntKind.wrap .i64 ((k : Int) + 1) = (k : Int) + 1 := by rw [IntKind.wrap_i64]; omega
    rw [ew] at h3i
    have hs3 : Q6 w b2 b3 b13 b19 D N ((k : Int) + 1) W3 := ⟨hs2.kp.trans k3 fun j hj h => by have : j = b19 := h; omega, by have := hs2.sz; omega, hs2.n.keep1 k3 (by omega), hs2.r.keep1 k3 (by omega), hs2.s.keep1 k3 (by omega), h3i⟩
    refine ldI_of (h3i.cell 0) ?_
    refine cl_of ok16 (luby16 ((k : Int) + 1) W3 (by omega)) fun e W4 ⟨he, hw⟩ => ⟨_, he, ?_⟩
    subst hw
    have et : ((k : Int) + 1).toNat = k + 1 := by omega
    rw [et]
    refine pif_f (by simp) (ldI_of (h3i.cell 0) ?_)
    have fin : ∀ {V : World}, Keep (Oth D) W2 V → Q6 w b2 b3 b13 b19 D N ((k : Int) + 1) V → pif (decide ((k : Int) + 1 > N)) (Keep (Oth D) W2 V ∧ Q6 w b2 b3 b13 b19 D N (N + 1) V) (Keep (Oth D) W2 V ∧ ((k + 1 : Nat) : Int) ≤ N ∧ Q6 w b2 b3 b13 b19 D N ((k + 1 : Nat) : Int) V) := fun hkV hV => by
      refine pif_of (fun hg => ⟨hkV, ?_⟩) fun hg => ⟨hkV, by simp at hg; omega, hV⟩
      have hg : (k : Int) + 1 > N := by simpa using hg
      have e : N + 1 = (k : Int) + 1 := by omega
      rw [e]; exact hV
    have ko : Keep (Oth D) W2 W4 := k3.mono fun j _ h => by have : j = b19 := h; unfold Oth; omega
    refine pif_of (fun hm => ?_) fun hm => ldI_of (h3i.cell 0) (ldI_of (hs3.n.cell 0) (fin ko hs3))
    refine alc_at fun b39 W5 hb39 h39 k5 => ?_
    have l39 := h39.lt
    refine st_of h39 (by simp) rfl fun W6 h39 k6' e6 => ?_
    simp only [List.set_cons_zero] at h39
    have z4 := hs3.sz
    have k46 : Keep None W4 W6 := k5.then1 k6' (by omega)
    have hs6 := hs3.keep k46 (fun _ _ h => h) c2 c3 c13 c19 cw
    refine ldV_of (hs6.s.cell 0) ⟨27, #[], rfl, by kernel_rfl, by decide, ?_⟩
    refine ⟨?_, fun k => lub (k + 1), 9, fun k V => k ≤ 8 ∧ Blk V b39 [I k] 3 ∧ Keep (fun i => i = b39 ∨ W6.heap.size ≤ i) W6 V, fun _ => False, fun _ V => Blk V b39 [I 9] 3 ∧ Keep (fun i => i = b39 ∨ W6.heap.size ≤ i) W6 V,
      seq27 _ (by omega), (fun k V h => by have := h.1; omega), ?_, fun _ _ h => h.elim, ?_, ?_, ?_, (fun _ h => h.elim), ?_, trivial⟩
    · obtain ⟨r, hr⟩ := hrec
      have hlt := (Array.getElem?_eq_some_iff.1 hr).1
      refine ⟨r, ?_⟩
      rw [k46.block (D + 1) (by omega) fun h => h, k3.block (D + 1) hlt fun h => by have : D + 1 = b19 := h; omega]
      exact hr
    · rintro k V V' ⟨a, b, c⟩ hv
      have hlt := c.size
      exact ⟨a, b.keep hv fun h => by have : b39 = W6.heap.size := h; omega, c.trans hv fun i hi h => by have : i = W6.heap.size := h; omega⟩
    · rintro id V V' ⟨b, c⟩ hv
      exact ⟨b.keep hv fun h => by have : b39 = W6.heap.size := h; omega, c.trans hv fun i hi h => by have : i = W6.heap.size := h; omega⟩
    · intro V hV _
      exact ⟨by omega, h39.keep0 hV, hV.none⟩
    · rintro k' V ⟨hk', hB, hkV⟩
      refine ⟨Keep.refl _ _, fun V2 hv => ?_⟩
      have hB2 := hB.keep hv fun h => by have : b39 = W6.heap.size := h; omega
      have hkV2 : Keep (fun i => i = b39 ∨ W6.heap.size ≤ i) W6 V2 := hkV.trans hv fun i hi h => by have : i = W6.heap.size := h; omega
      refine ldI_of (hB2.cell 0) (st_of hB2 (by simp) rfl fun V3 hB3 kv3 ev3 => ?_)
      simp only [List.set_cons_zero] at hB3
      have ew' : IntKind.wrap .i64 ((k' : Int) + 1) = (k' : Int) + 1 := by rw [IntKind.wrap_i64]; omega
      rw [ew'] at hB3
      refine ldI_of (hB3.cell 0) ?_
      refine cl_of ok16 (luby16 ((k' : Int) + 1) V3 (by omega)) fun e V4 ⟨he, hw⟩ => ⟨_, he, ?_⟩
      subst hw
      have et' : ((k' : Int) + 1).toNat = k' + 1 := by omega
      rw [et']
      have kv4 : Keep (fun i => i = b39 ∨ W6.heap.size ≤ i) W6 V4 := hkV2.trans kv3 fun i hi h => Or.inl h
      have ko1 : Keep (Oth1 W6.heap.size) V2 V4 := kv3.mono fun i _ h => by have : i = b39 := h; unfold Oth1; omega
      refine pif_f (by simp) (ldI_of (hB3.cell 0) (pif_of (fun h9 => ?_) fun h9 => ?_))
      · have h9 : (k' : Int) + 1 = 9 := by simpa using h9
        rw [h9] at hB3
        exact ⟨ko1, hB3, kv4⟩
      · have h9 : ¬ (k' : Int) + 1 = 9 := by simpa using h9
        exact ⟨ko1, by omega, hB3, kv4⟩
    · rintro V ⟨hB, hkV⟩
      have hsV : Q6 w b2 b3 b13 b19 D N ((k : Int) + 1) V := hs6.keep hkV (fun j hj h => by have := hs6.sz; rcases h with h | h <;> omega) c2 c3 c13 c19 cw
      refine ldI_of (hB.cell 0) (pif_f rfl (ldI_of (hsV.i.cell 0) (ldI_of (hsV.n.cell 0) (fin ?_ hsV))))
      exact (ko.then0 k46).trans hkV fun j hj h => by
        have := hs6.sz
        unfold Oth
        rcases h with h | h <;> omega
  · intro W hs hdef
    refine ldI_of (hs.i.cell 0) (ldI_of (hs.n.cell 0) (st_of hs.r (by simp) rfl fun W2 hr k2 e2 => ?_))
    simp only [List.set_cons_zero] at hr
    have ew : IntKind.wrap .i64 (N + 1) = N + 1 := by rw [IntKind.wrap_i64]; omega
    rw [ew, beq_self_eq_true] at hr
    have hlt := (Array.getElem?_eq_some_iff.1 hdef).1
    have kp : Keep (Vc.One D) W2 (W2.putObj D (.deferred none)) := Keep.putObj rfl
    refine ⟨(k2.block D hlt fun h => by have : D = b3 := h; omega).trans hdef, ldB_of ((hr.keep kp fun h => by have : b3 = D := h; omega).cell 0) ⟨rfl, ?_⟩⟩
    exact (hs.kp.trans k2 fun j hj h => by have : j = b3 := h; omega).trans kp fun j hj h => by have : j = D := h; omega
theorem law6 (N : Int) (w : World) : Calls Try.prog 6 #[I N] w fun e w' => e = .returned (.bool true) ∧ RowKit.Below w.heap.size w w' := by
  refine (V6_calls N w (Yes6 w) ?_).mono fun e w' ⟨v, he, hv, hk⟩ => ⟨by rw [he, hv], hk.below0⟩
  unfold V6
  refine alc_at fun b2 w1 hb2 h2 k1 => ?_
  refine alc_at fun b3 w2 hb3 h3 k2 => ?_
  have l2 := h2.lt
  have h2 := h2.keep0 k2
  have k02 := k1.then0 k2
  refine ldI_of (h2.cell 0) ?_
  by_cases h0 : N < 0
  · have e0 : decide (N < 0) = true := decide_eq_true h0
    rw [e0]
    refine gd_f rfl (pif_t rfl ?_)
    simp only [add_mk, Nat.zero_add, Nat.add_zero]
    refine st_of h2 (by simp) rfl fun w4 h2' k4 _ => ?_
    exact w6 (N := 5000) (by decide) (by decide) h2' (h3.keep1 k4 (by omega)) (by omega) (k02.then1 k4 (by omega)) (by omega) (by omega)
  have e0 : decide (N < 0) = false := decide_eq_false h0
  rw [e0]
  refine gd_t rfl (ldI_of (h2.cell 0) ?_)
  by_cases h5 : N > 5000
  · refine pif_t (by rw [decide_eq_true h5]; rfl) ?_
    simp only [add_mk, Nat.zero_add, Nat.add_zero]
    refine st_of h2 (by simp) rfl fun w4 h2' k4 _ => ?_
    exact w6 (N := 5000) (by decide) (by decide) h2' (h3.keep1 k4 (by omega)) (by omega) (k02.then1 k4 (by omega)) (by omega) (by omega)
  · refine pif_f (by rw [decide_eq_false h5]; rfl) ?_
    exact w6 (N := N) (by omega) (by omega) h2 h3 (by omega) k02 (by omega) (by omega)
end Go.Proofs.Ytkpoagdhekimpaa.Pace
