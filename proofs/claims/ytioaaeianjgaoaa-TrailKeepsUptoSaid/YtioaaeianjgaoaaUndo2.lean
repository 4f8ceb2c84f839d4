/- TrailUndoes: the law's walk. -/
import Derived.Test.YtioaaeianjgaoaaUndo
set_option linter.unusedVariables false
set_option linter.unusedSimpArgs false
set_option maxRecDepth 100000
namespace Go.Proofs.Ytioaaeianjgaoaa.Trail
open Go Go.Proofs.Ytioaaeianjgaoaa.Vc Go.Proofs.Ytioaaeianjgaoaa.T

theorem OpD.keep0 {w w' : World} {sp : Option Addr} {m : Nat} {ops : List (Int × Int × Int)} (ho : OpD w sp m ops) (hk : Keep None w w') : OpD w' sp m ops :=
  ⟨ho.len, ho.small, fun i hi => by
    obtain ⟨a, e, c1, c2, c3, r⟩ := ho.at' i hi
    exact ⟨a, e, hk.cell c1 fun h => h, hk.cell c2 fun h => h, hk.cell c3 fun h => h, r⟩⟩
theorem OpD.lt {w : World} {sp : Option Addr} {m : Nat} {ops : List (Int × Int × Int)} (ho : OpD w sp m ops) (hm : 0 < m) : ∀ i, ob sp i → i < w.heap.size := fun i hi => by
  obtain ⟨a, e, c1, _⟩ := ho.at' 0 hm
  obtain ⟨a', e', rfl⟩ := hi
  rw [e] at e'
  injection e' with e'
  subst e'
  have := cell_lt c1
  have hb : ((a.add (0 * 5)).add 1).block = a.block := by unfold Addr.add; split <;> split <;> rfl
  rwa [hb] at this

theorem stepA_rs {n : Nat} {fl : Int} {ops : List (Int × Int × Int)} : (∀ o ∈ ops, i64 o.2.2) → ∀ {S : List E × List Int}, (∀ e ∈ S.1, i64 e.rs) → ∀ e ∈ (ops.foldl (stepA n fl) S).1, i64 e.rs := by
  induction ops with
  | nil => intro _ S h; exact h
  | cons o ops ih =>
    intro ho S h
    refine ih (fun x hx => ho x (by simp [hx])) ?_
    have h0 := ho o (by simp)
    unfold stepA
    intro e he
    split at he
    · split at he
      · rcases List.mem_append.1 he with he | he
        · exact h e he
        · simp only [List.mem_singleton] at he; subst he; exact ⟨by simp, by simp⟩
      · exact h e he
    · split at he
      · split at he
        · rcases List.mem_append.1 he with he | he
          · exact h e he
          · simp only [List.mem_singleton] at he; subst he; exact h0
        · exact h e he
      · generalize (if o.2.1 < fl then fl else o.2.1) = k at he
        split at he
        · exact h e (List.mem_filter.1 he).1
        · exact h e he
theorem OpD.rs {w : World} {sp : Option Addr} {m : Nat} {ops : List (Int × Int × Int)} (ho : OpD w sp m ops) : ∀ o ∈ ops, i64 o.2.2 := fun o h => by
  obtain ⟨i, hi, rfl⟩ := List.mem_iff_getElem.1 h
  obtain ⟨a, e, c1, c2, c3, r1, r2, r3⟩ := ho.at' i (by have := ho.len; omega)
  rw [List.getD_eq_getElem?_getD, List.getElem?_eq_getElem hi] at r3
  exact r3
theorem reaA_wf {n : Nat} {R : List E} (hr : ∀ e ∈ R, i64 e.rs) (v : Int) : (Lit.int .i64 (reaA n R v)).wf = true := by
  have key : ∀ x : Int, i64 x → (Lit.int .i64 x).wf = true := fun x hx => by
    have h1 := hx.1
    have h2 := hx.2
    simp [Lit.wf, IntKind.min, IntKind.max, IntKind.signed, IntKind.bits]
    omega
  unfold reaA
  split
  · split
    · rename_i e he
      exact key _ (hr e (ent_some he).2)
    · exact key _ ⟨by omega, by omega⟩
  · exact key _ ⟨by omega, by omega⟩

theorem says_wf {n : Nat} {w : World} {T1 : TI} {R : List E} {L : List Int} (h1 : Tr n w T1 R L) (hr : ∀ e ∈ R, i64 e.rs) : ∀ x ∈ sayA n R L 87, (Lit.int .i64 x).wf = true := by
    have hs := h1.small
    suffices H : ∀ k, k ≤ 87 → ∀ x ∈ sayA n R L k, (Lit.int .i64 x).wf = true from H 87 (Nat.le_refl _)
    intro k
    induction k with
    | zero =>
      intro _ x hx
      simp only [sayA, List.mem_append] at hx
      rcases hx with (hx | hx) | hx
      · simp only [List.mem_cons, List.not_mem_nil, or_false] at hx
        rcases hx with rfl | rfl | rfl <;> exact wf_small (by omega)
      · exact h1.wfL x hx
      · exact h1.wfM x hx
    | succ k ih =>
      intro hk x hx
      simp only [sayA, List.mem_append] at hx
      rcases hx with hx | hx
      · exact ih (by omega) x hx
      · simp only [List.mem_cons, List.not_mem_nil, or_false] at hx
        rcases hx with rfl | rfl | rfl
        · have := valA_small n R ((k : Int) - 43); exact wf_small (by omega)
        · have := h1.levA_small ((k : Int) - 43); exact wf_small (by omega)
        · exact reaA_wf hr _
theorem same_says {n : Nat} {w : World} {T1 T2 : TI} {R : List E} {L : List Int} (h1 : Tr n w T1 R L) (h2 : Tr n w T2 R L) (hr : ∀ e ∈ R, i64 e.rs) {K : Bool → World → Prop} (hK : ∀ w', Keep None w w' → K true w') :
    cl Try.prog 20 [Pt T1.t] w fun e24 w6 => ∃ (x23 : Option Addr) (x23n x23c : Nat), e24 = Ending.returned (.slice x23 x23n x23c) ∧
      cl Try.prog 20 [Pt T2.t] w6 fun e26 w7 => ∃ (x25 : Option Addr) (x25n x25c : Nat), e26 = Ending.returned (.slice x25 x25n x25c) ∧
      cl Try.prog 19 [.slice x23 x23n x23c, .slice x25 x25n x25c] w7 fun e28 w8 => ∃ x27 : Bool, e28 = Ending.returned (.bool x27) ∧ K x27 w8 := by
  have hwf := says_wf h1 hr
  refine cl_of ok20 (sayings20 h1) fun e w6 ⟨v, he, hf, k6⟩ => ?_
  have hf' := hf
  obtain ⟨p, cc, hv, _, _⟩ := hf
  refine ⟨p, _, cc, he.trans (congrArg Ending.returned hv), ?_⟩
  refine cl_of ok20 (sayings20 (h2.keep0 k6)) fun e w7 ⟨v2, he, hf2, k7⟩ => ?_
  have hf2' := hf2
  obtain ⟨q, cq, hv2, _, _⟩ := hf2
  refine ⟨q, _, cq, he.trans (congrArg Ending.returned hv2), ?_⟩
  have hX := hf'.slL hv hwf k7
  have hY := hf2'.slL hv2 hwf (Keep.refl _ _)
  refine cl_of ok19 (same19 hX hY) fun e w8 ⟨he, k8⟩ => ⟨_, he, ?_⟩
  rw [show decide (sayA n R L 87 = sayA n R L 87) = true by simp]
  exact hK w8 ((k6.then0 k7).then0 k8)

theorem over_back {R Q : List E} {e : E} {k : Int} (hl : ∀ x ∈ R, x.lv ≤ k) (he : k < e.lv) (hQ : ∀ x ∈ Q, k < x.lv) : above k (R ++ [e] ++ Q) = e :: Q ∧ upto k (R ++ [e] ++ Q) = R := by
  have h := above_drop (R := R ++ [e] ++ Q) (fr := R.length) (k := k) (fun x hx => by
    rw [List.append_assoc, List.take_left] at hx; exact hl x hx) (fun x hx => by
    rw [List.append_assoc, List.drop_left] at hx
    rcases List.mem_cons.1 hx with rfl | hx
    · exact he
    · exact hQ x hx)
  rw [List.append_assoc, List.take_left, List.drop_left] at h
  rw [List.append_assoc]
  exact h

theorem gd_says {n : Nat} {w : World} {T1 T2 : TI} {R : List E} {L : List Int} (h1 : Tr n w T1 R L) (h2 : Tr n w T2 R L) (hr : ∀ e ∈ R, i64 e.rs) {K : Bool → World → Prop} (hK : ∀ w', Keep None w w' → K true w') :
    gd (α := (Option Addr × Nat × Nat)) true (fun k72 => cl Try.prog 20 [Pt T1.t] w fun e74 w20 => ∃ (x73 : Option Addr) (x73n x73c : Nat), e74 = Ending.returned (.slice x73 x73n x73c) ∧ k72 (x73, x73n, x73c) w20) (none, 0, 0) w fun x75 w21 =>
      gd (α := (Option Addr × Nat × Nat)) true (fun k76 => cl Try.prog 20 [Pt T2.t] w21 fun e78 w22 => ∃ (x77 : Option Addr) (x77n x77c : Nat), e78 = Ending.returned (.slice x77 x77n x77c) ∧ k76 (x77, x77n, x77c) w22) (none, 0, 0) w21 fun x79 w23 =>
      gd (α := Bool) true (fun k80 => cl Try.prog 19 [.slice x75.1 x75.2.1 x75.2.2, .slice x79.1 x79.2.1 x79.2.2] w23 fun e82 w24 => ∃ x81 : Bool, e82 = Ending.returned (.bool x81) ∧ k80 x81 w24) false w23 fun x83 w25 =>
      K (cond true x83 false) w25 := by
  have hwf := says_wf h1 hr
  have s1 := sayings20 h1
  have s2 := fun w' (k : Keep None w w') => sayings20 (h2.keep0 k)
  generalize sayA n R L 87 = Z at *
  refine gd_t rfl (cl_of ok20 s1 fun e wa ⟨v, he, hf, ka⟩ => ?_)
  have hfa := hf
  obtain ⟨pa, ca, hva, _, _⟩ := hf
  refine ⟨pa, _, ca, he.trans (congrArg Ending.returned hva), ?_⟩
  refine gd_t rfl (cl_of ok20 (s2 wa ka) fun e wb ⟨v2, he, hf2, kb⟩ => ?_)
  have hfb := hf2
  obtain ⟨pb, cb, hvb, _, _⟩ := hf2
  refine ⟨pb, _, cb, he.trans (congrArg Ending.returned hvb), ?_⟩
  have hXa := hfa.slL hva hwf kb
  have hXb := hfb.slL hvb hwf (Keep.refl _ _)
  refine gd_t rfl (cl_of ok19 (same19 hXa hXb) fun e wc ⟨he, kc⟩ => ⟨_, he, ?_⟩)
  rw [show decide (Z = Z) = true by simp]
  exact hK wc ((ka.then0 kb).then0 kc)
theorem law4 (v0 d : Int) (ap : Option Addr) (am ac : Nat) (bp : Option Addr) (bm bc : Nat) (A B : List (Int × Int × Int)) (w : World) (hv : i64 v0) (hd : i64 d) (hA : OpD w ap am A) (hB : OpD w bp bm B) :
    Calls Try.prog 4 #[.agg #[I v0, .slice ap am ac, I d, .slice bp bm bc]] w fun e w' => e = .returned (.bool true) ∧ RowKit.Below w.heap.size w w' := by
  refine (V4_calls v0 ap am ac d bp bm bc w (Yes2 w) ?_).mono fun e w' ⟨v, he, hv, hk⟩ => ⟨by rw [he, hv], hk.below0⟩
  unfold V4
  refine alc_at fun b w1 hb hBk k1 => ?_
  simp only [add_mk, Nat.zero_add, Nat.add_zero]
  have cc : ∀ {w' : World} {i : Nat} {u : Value}, Keep None w1 w' → [I v0, .slice ap am ac, I d, .slice bp bm bc][i]? = some u → w'.cell? ⟨b, i, none⟩ = some u := fun hk hu => by
    rw [(hBk.keep0 hk).cell]; exact hu
  have kd : Keep None w1 w1.drew := (Keep.refl _ _).drew
  refine ldI_of (cc kd rfl) (ldC_of (cc kd rfl) (ldI_of (cc kd rfl) (ldC_of (cc kd rfl) ?_)))
  have hAd := (hA.keep0 k1).keep0 kd
  refine cl_of ok17 (begun17 hv hAd) fun e w2 ⟨r, he, k2, T1, hr, hF1, hT1⟩ => ⟨_, he.trans (congrArg Ending.returned hr), ?_⟩
  have k12 := kd.then0 k2
  refine ⟨ldC_of (cc k12 rfl) rfl, ldI_of (cc k12 rfl) rfl, ?_⟩
  have hAr := hA.rs
  refine cl_of ok17 (begun17 hv (hAd.keep0 k2)) fun e w3 ⟨r, he, k3, T2, hr, hF2, hT2⟩ => ⟨_, he.trans (congrArg Ending.returned hr), ?_⟩
  generalize hn : (v0 % 41).toNat = n at *
  have hrs : ∀ e ∈ (runA n A).1, i64 e.rs := stepA_rs hAr fun e he => by cases he
  generalize (runA n A).1 = R at *
  generalize (runA n A).2 = L at *
  refine pif_f rfl ?_
  have hdis : ∀ i, T1.F i → ¬ T2.F i := fun i h1 h2 => by
    have := hT1.lt i h1
    have := hF2 i h2
    omega
  have z1 := k1.size
  have z2 := k2.size
  have z3 := k3.size
  have f1 : ∀ i, T1.F i → w1.heap.size ≤ i := fun i h => by have := hF1 i h; exact this
  have f2 : ∀ i, T2.F i → w1.heap.size ≤ i := fun i h => by have := hF2 i h; exact Nat.le_trans z2 this
  have lt2 := hT2.lt
  have hT1 := hT1.keep0 k3
  have k13 := k12.then0 k3
  have hBn := hB.keep0 k1
  refine cl_of ok13 hT1.level fun e w4 ⟨he, hw⟩ => ⟨_, he, ?_⟩
  subst hw
  refine ldI_of (cc k13 rfl) ?_
  have hs := hT1.small
  refine cl_of ok18 (hT1.decide d hd.1) fun e w5 ⟨he, k5, T5, m5, hT5⟩ => ⟨_, he, ?_⟩
  have hT2 := hT2.keep k5 fun i h2 h1 => hdis i h1 h2
  have k15 : Keep None w1 w5 := k13.trans k5 fun i hi h => by have := f1 i h; omega
  have z5 := k5.size
  have dis5 : ∀ i, T5.F i → ¬ T2.F i := fun i h5 h2 => by
    rcases m5.2 i h5 with h | h
    · exact hdis i h h2
    · have := lt2 i h2
      omega
  have f5 : ∀ i, T5.F i → w1.heap.size ≤ i := fun i h => by
    rcases m5.2 i h with h | h
    · exact f1 i h
    · have := k13.size; omega
  rw [← m5.1]
  by_cases hfr : freeA n R d = 0
  · rw [hfr, if_pos rfl, if_pos rfl] at hT5
    rw [hfr]
    refine pif_f rfl (cl_of ok13 hT5.level fun e w6 ⟨he, hw⟩ => ⟨_, he, ?_⟩)
    subst hw
    have hfo := freeA_open hfr
    have el : (L ++ [(R.length : Int)]).length = L.length + 1 := by simp
    have ew : IntKind.wrap .i64 ((L.length : Int) + 1) = (L.length : Int) + 1 := by rw [IntKind.wrap_i64]; omega
    rw [el, ew]
    have eb : (((L.length + 1 : Nat) : Int) != (L.length : Int) + 1) = false := by simp
    rw [eb]
    have kd5 := k15
    refine gd_t rfl (ldI_of (cc k15 rfl) (gd_t rfl ?_))
    refine cl_of ok14 (hT5.value d hd.1) fun e w7 ⟨he, k7⟩ => ⟨_, he, ?_⟩
    have ev : valA n (R ++ [⟨d, (L.length + 1 : Nat), -1⟩]) d = 1 := by
      unfold valA ent
      rw [hfo.1, if_pos rfl, find_snoc, hfo.2.find]
      simp
    rw [ev]
    refine pif_f rfl ?_
    have hT7 := hT5.keep0 k7
    have k17 := k15.then0 k7
    refine ldC_of (cc k17 rfl) ?_
    have hstl := hT1.st.lvl
    have hst5 := hT5.st.lvl
    have hO0 : Over (R ++ [⟨d, (L.length + 1 : Nat), -1⟩]) (L ++ [(R.length : Int)]) (L ++ [(R.length : Int)]).length (R ++ [⟨d, (L.length + 1 : Nat), -1⟩], L ++ [(R.length : Int)]) := ⟨⟨[], by simp, fun e he => by cases he⟩, ⟨[], by simp⟩⟩
    have hO := hO0.fold (n := n) (fun e he => (hst5 e he).2) B
    rw [el] at hO
    have efl : ((L.length + 1 : Nat) : Int) = (L.length : Int) + 1 := by omega
    have hfl : i64 ((L.length : Int) + 1) := ⟨by omega, by omega⟩
    refine cl_of ok22 (act22 hT7 (hBn.keep0 k17) (fun hm i hi h => by have := hB.lt hm i hi; have := f5 i h; omega) hfl) fun e w8 ⟨he, k8, T8, m8, hT8⟩ => ⟨he, ?_⟩
    rw [efl] at hO hT8
    generalize B.foldl (stepA n ((L.length : Int) + 1)) (R ++ [⟨d, (L.length : Int) + 1, -1⟩], L ++ [(R.length : Int)]) = S at *
    obtain ⟨R8, L8⟩ := S
    obtain ⟨⟨Q, hQ, hQl⟩, ⟨P, hP⟩⟩ := hO
    simp only [] at hQ hP hT8
    subst hQ hP
    rw [← m8.1]
    have hT2 := (hT2.keep0 k7).keep k8 fun i h2 h5 => dis5 i h5 h2
    have k18 : Keep None w1 w8 := k17.trans k8 fun i hi h => by have := f5 i h; omega
    have dis8 : ∀ i, T8.F i → ¬ T2.F i := fun i h8 h2 => by
      rcases m8.2 i h8 with h | h
      · exact dis5 i h h2
      · have := lt2 i h2
        have := k7.size
        omega
    have f8 : ∀ i, T8.F i → w1.heap.size ≤ i := fun i h => by
      rcases m8.2 i h with h | h
      · exact f5 i h
      · have := k17.size; omega
    have hs8 := hT8.small
    refine cl_of ok10 hT8.lits fun e w9 ⟨v, he, hf, k9⟩ => ?_
    have hf' := hf
    obtain ⟨p, pc, hv9, _, _⟩ := hf
    refine ⟨p, _, pc, he.trans (congrArg Ending.returned hv9), ?_⟩
    refine cl_of ok10 (hT2.keep0 k9).lits fun e w10 ⟨v, he, hf2, k10⟩ => ?_
    obtain ⟨q, qc, hv10, _, _⟩ := hf2
    refine ⟨q, _, qc, he.trans (congrArg Ending.returned hv10), ?_⟩
    have hT10 := (hT8.keep0 k9).keep0 k10
    have hT2 := (hT2.keep0 k9).keep0 k10
    obtain ⟨a1, a2⟩ := over_back (R := R) (Q := Q) (e := ⟨d, (L.length : Int) + 1, -1⟩) (k := L.length) (fun x hx => (hstl x hx).2) (by simp only []; omega) (fun x hx => by have := hQl x hx; omega)
    have hbk := hT10.back (k := (L.length : Int)) (by omega) (by simp; omega)
    rw [a1, a2, Int.toNat_natCast, List.append_assoc, List.take_left] at hbk
    refine cl_of ok12 hbk fun e w11 ⟨o, oc, he, hOo, hof, k11, hT11⟩ => ⟨_, _, _, _, he, ?_⟩
    have hT2 := hT2.keep k11 fun i h2 h8 => dis8 i h8 h2
    have hX := (hf'.slL hv9 hT8.wfL k10).keep k11 fun i hi h8 => by
      have := hT8.lt i h8
      obtain ⟨p', c', e', _, hnew⟩ := hf'
      rw [hv9] at e'
      injection e' with e1 e2 e3
      subst e1
      have := hnew i hi
      omega
    have hwQ : ∀ x ∈ (Trail.lits (⟨d, (L.length : Int) + 1, -1⟩ :: Q)).reverse, (Lit.int .i64 x).wf = true := fun x hx => hT8.wfL x (by
      rw [List.mem_reverse] at hx
      obtain ⟨y, hy, rfl⟩ := List.mem_map.1 hx
      exact List.mem_map.2 ⟨y, by rw [List.append_assoc]; exact List.mem_append_right _ hy, rfl⟩)
    have hOs := Own.slL hOo hwQ
    have k111 : Keep None w1 w11 := ((k18.then0 k9).then0 k10).trans k11 fun i hi h => by have := f8 i h; omega
    have eB : Trail.lits (R ++ [(⟨d, (L.length : Int) + 1, -1⟩ : E)] ++ Q) = Trail.lits R ++ Trail.lits (⟨d, (L.length : Int) + 1, -1⟩ :: Q) := by simp [Trail.lits]
    have hlen : (Trail.lits (⟨d, (L.length : Int) + 1, -1⟩ :: Q)).length = Q.length + 1 := by simp [Trail.lits]
    have hhd : (Trail.lits ((⟨d, (L.length : Int) + 1, -1⟩ : E) :: Q))[0]? = some d := by simp [Trail.lits]
    have hRl : (R ++ [(⟨d, (L.length : Int) + 1, -1⟩ : E)] ++ Q).length = R.length + (Q.length + 1) := by simp
    rw [eB, List.length_append, hlen, lits_len] at hX
    rw [eB, List.length_append, hlen, lits_len]
    have hq : ((⟨d, (L.length : Int) + 1, -1⟩ : E) :: Q).length = Q.length + 1 := rfl
    rw [hq] at hOs ⊢
    have hRs := hs8.2.1
    rw [hRl] at hRs
    generalize Trail.lits ((⟨d, (L.length : Int) + 1, -1⟩ : E) :: Q) = X at *
    have hRL := lits_len R
    generalize Trail.lits R = Y at *
    generalize Q.length + 1 = m at *
    have hm : 0 < m := by
      have := (List.getElem?_eq_some_iff.1 hhd).1
      omega
    have c1 : (cond (cond ((0 : Int) != 0) true ((m : Int) == 0)) true (((R.length + m : Nat) : Int) != (IntKind.wrap .i64 ((R.length : Int) + (m : Int))))) = false := by
      have e1 : IntKind.wrap .i64 ((R.length : Int) + (m : Int)) = ((R.length + m : Nat) : Int) := by rw [IntKind.wrap_i64]; omega
      have e2 : ((m : Int) == 0) = false := by simp; omega
      rw [e1, e2]; simp
    refine pif_f c1 ?_
    have rev_at : ∀ i : Nat, i < m → X.reverse.getD i 0 = X.getD (m - 1 - i) 0 := fun i hi => by
      rw [List.getD_eq_getElem?_getD, List.getD_eq_getElem?_getD, List.getElem?_reverse (by omega), hlen]
    refine lp_of (fun s w12 => ∃ i : Nat, s.1 = i ∧ i ≤ m ∧ Keep None w11 w12) (fun s _ => (m - s.1).toNat) ⟨0, rfl, Nat.zero_le _, Keep.refl _ _⟩ ?_
    rintro ⟨i', ⟨⟩⟩ w12 ⟨i, rfl, hi, k12'⟩
    simp only []
    have kd12 : Keep None w11 w12.drew := k12'.drew
    have hO12 := hOs.keep0 kd12
    have hX12 := hX.keep0 kd12
    refine pif_of (fun hlt => ?_) fun hge => ?_
    · have hlt : i < m := by simpa using hlt
      have e1 : IntKind.wrap .i64 ((IntKind.wrap .i64 (((R.length + m : Nat) : Int) - 1)) - (i : Int)) = ((R.length + m - 1 - i : Nat) : Int) := by rw [IntKind.wrap_i64, IntKind.wrap_i64]; omega
      have e2 : IntKind.wrap .i64 ((i : Int) + 1) = ((i + 1 : Nat) : Int) := by rw [IntKind.wrap_i64]; omega
      refine hO12.ix (by omega) (by omega) fun a ha => ldI_of ha ?_
      rw [e1, e2]
      refine hX12.ix (by omega) (by omega) fun a2 ha2 => ldI_of ha2 ?_
      rw [Int.toNat_natCast, Int.toNat_natCast, rev_at i hlt]
      have e3 : (Y ++ X).getD (R.length + m - 1 - i) 0 = X.getD (m - 1 - i) 0 := by
        rw [List.getD_eq_getElem?_getD, List.getD_eq_getElem?_getD, List.getElem?_append_right (by omega)]
        congr 2
        omega
      rw [e3]
      exact pif_f (by simp) ⟨⟨i + 1, rfl, hlt, kd12⟩, by omega⟩
    · have hge : i = m := by simp at hge; omega
      subst hge
      have e1 : IntKind.wrap .i64 ((i : Int) - 1) = ((i - 1 : Nat) : Int) := by rw [IntKind.wrap_i64]; omega
      rw [e1]
      refine hO12.ix (by omega) (by omega) fun a ha => ldI_of ha ?_
      rw [Int.toNat_natCast, rev_at _ (by omega), show i - 1 - (i - 1) = 0 by omega, List.getD_eq_getElem?_getD, hhd]
      refine ldI_of (cc (k111.then0 kd12) rfl) ?_
      have eq1 : (((some d).getD 0 : Int) == d) = true := by simp
      rw [eq1]
      have hkk : Keep None w w12.drew := (k1.then0 k111).then0 kd12
      exact gd_says (K := fun b w' => Yes2 w (.bool b) w') (hT11.keep0 kd12) (hT2.keep0 kd12) hrs fun w' k => ⟨rfl, hkk.then0 k⟩
  · rw [if_neg hfr, if_neg hfr] at hT5
    refine pif_t (by simpa using hfr) ?_
    refine same_says hT5 hT2 hrs fun w8 k8 => ?_
    refine gd_t rfl (cl_of ok21 (live21 w8) fun e w9 ⟨he, k9⟩ => ⟨_, he, rfl, ?_⟩)
    exact ((k1.then0 k15).then0 k8).then0 k9
end Go.Proofs.Ytioaaeianjgaoaa.Trail
