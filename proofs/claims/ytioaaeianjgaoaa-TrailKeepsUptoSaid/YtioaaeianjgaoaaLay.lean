/- What changes a trail: Decide, Imply, Back. -/
import Derived.Test.YtioaaeianjgaoaaBegins
set_option linter.unusedVariables false
set_option linter.unusedSimpArgs false
set_option maxRecDepth 100000
namespace Go.Proofs.Ytioaaeianjgaoaa.Trail
open Go Go.Proofs.Ytioaaeianjgaoaa.Vc Go.Proofs.Ytioaaeianjgaoaa.T

theorem flat_set (x y : Int) : ∀ (l : List (Int × Int)) (i : Nat), i < l.length → ((l.flatMap two).set (i * 2) (I x)).set (i * 2 + 1) (I y) = (l.set i (x, y)).flatMap two := by
  intro l
  induction l with
  | nil => intro i h; simp at h
  | cons a l ih =>
    intro i h
    cases i with
    | zero => simp [List.flatMap_cons, two]
    | succ i =>
      have := ih i (by simpa using h)
      have e1 : (i + 1) * 2 = i * 2 + 1 + 1 := by omega
      rw [List.flatMap_cons, e1, List.set_cons_succ, List.flatMap_cons, ← this]
      simp [two]

section
variable {w : World} {T : TI} {row levels vals : List Int} {tolds : List (Int × Int)}
def freeB (vals : List Int) (l : Int) : Int := if ownB vals.length l then (if vals.getD (l.natAbs - 1) 0 = 0 then 0 else 50) else 1
theorem free39 (hT : TRep w T row levels vals tolds) (l : Int) (hl : -9223372036854775808 ≤ l) :
    Calls Try.prog 39 #[Pt T.t, I l] w fun e w' => e = .returned (I (freeB vals l)) ∧ Keep None w w' ∧ TRep w' T row levels vals tolds := by
  refine (V39_calls (some ⟨T.t, 0, none⟩) l w (fun v w' => v = I (freeB vals l) ∧ Keep None w w' ∧ TRep w' T row levels vals tolds) ?_).mono fun e w' ⟨v, he, hv, hk⟩ => ⟨by rw [he, hv], hk⟩
  unfold V39
  refine cl_of ok37 (own37 hT l hl) fun e w1 ⟨i, he, hi, hw⟩ => ⟨_, _, he, ?_⟩
  have hT1 := rep_drew hT hw
  have hk : Keep None w w1 := by rw [hw]; exact (Keep.refl _ _).drew
  unfold freeB
  rcases Bool.eq_false_or_eq_true (ownB vals.length l) with hb | hb
  · rw [hb, if_pos rfl]
    have hlt := own_lt hb
    rw [hi hb]
    refine pif_f rfl (nn_of ?_)
    rw [add_mk]
    refine ldC_of (hT1.obj.cell 2) (ixA_of1 (by omega) (by omega) ?_)
    refine ldI_of (x := vals.getD (l.natAbs - 1) 0) ?_ ?_
    · rw [hT1.hvals.cell, List.getElem?_map, show ((l.natAbs : Int) - 1).toNat = l.natAbs - 1 by omega, getD_of (d := 0) (by omega)]; rfl
    · refine pif_of (fun h => ?_) fun h => ?_
      · have h : ¬ vals.getD (l.natAbs - 1) 0 = 0 := by simpa using h
        rw [if_neg h]
        exact ⟨rfl, hk, hT1⟩
      · have h : vals.getD (l.natAbs - 1) 0 = 0 := by simpa using h
        rw [if_pos h]
        exact ⟨rfl, hk, hT1⟩
  · rw [hb, if_neg (by simp)]
    exact pif_t rfl ⟨rfl, hk, hT1⟩

/-- where a trail lies behind a call that may have moved its row or its levels -/
def Moved (w : World) (T T' : TI) : Prop := T'.t = T.t ∧ ∀ i, T'.F i → T.F i ∨ w.heap.size ≤ i
def sgn (l : Int) : Int := if l < 0 then -1 else 1
theorem lay40 (hT : TRep w T row levels vals tolds) (l r : Int) (hl : -9223372036854775808 ≤ l) (ho : ownB vals.length l = true) (hrow : row.length < 1048576) :
    Calls Try.prog 40 #[Pt T.t, I l, I r] w fun e w' => e = .returned (.tuple #[]) ∧ Keep T.F w w' ∧
      ∃ T', Moved w T T' ∧ T'.lp = T.lp ∧ TRep w' T' (row ++ [l]) levels (vals.set (l.natAbs - 1) (sgn l)) (tolds.set (l.natAbs - 1) ((levels.length : Int), r)) := by
  let Q : World → Prop := fun w' => Keep T.F w w' ∧ ∃ T', Moved w T T' ∧ T'.lp = T.lp ∧ TRep w' T' (row ++ [l]) levels (vals.set (l.natAbs - 1) (sgn l)) (tolds.set (l.natAbs - 1) ((levels.length : Int), r))
  refine (V40_calls (some ⟨T.t, 0, none⟩) l r w (fun v w' => v = .tuple #[] ∧ Q w') ?_).mono fun e w' ⟨v, he, hv, hk⟩ => ⟨by rw [he, hv], hk⟩
  unfold V40
  refine cl_of ok37 (own37 hT l hl) fun e w1 ⟨i, he, hi, hw⟩ => ⟨_, _, he, ?_⟩
  have hT1 := rep_drew hT hw
  have hk : Keep T.F w w1 := by rw [hw]; exact (Keep.refl _ _).drew
  have hs1 : w1.heap.size = w.heap.size := by rw [hw]; rfl
  have hlt := own_lt ho
  rw [hi ho]
  have hin : ((l.natAbs : Int) - 1).toNat = l.natAbs - 1 := by omega
  have fvb : T.F T.vb := Or.inr (Or.inl rfl)
  have ftb : T.F T.tb := Or.inr (Or.inr (Or.inl rfl))
  have ft : T.F T.t := Or.inl rfl
  refine nn_of ?_
  simp only [add_mk, Nat.zero_add, Nat.add_zero, Nat.reduceAdd]
  refine ldC_of (hT1.obj.cell 2) (ixA_of1 (by omega) (by omega) ?_)
  simp only [add_mk, Nat.add_zero, hin]
  refine st_of hT1.hvals (by rw [List.length_map]; omega) rfl fun w2 h2 k2 s2 => ?_
  -- the sign
  refine ⟨fun _ w3 => Keep T.F w w3 ∧ TRep w3 T row levels (vals.set (l.natAbs - 1) (sgn l)) tolds ∧ w3.heap.size = w.heap.size, ?_, ?_⟩
  · have hO2 := hT1.obj.keep1 k2 hT.d1
    refine pif_of (fun hn => ?_) fun hn => ?_
    · have hn : l < 0 := by simpa using hn
      refine nn_of ?_
      refine ldC_of (hO2.cell 2) (ixA_of1 (by omega) (by omega) ?_)
      simp only [add_mk, Nat.add_zero, hin]
      refine st_of h2 (by rw [List.length_set, List.length_map]; omega) rfl fun w3 h3 k3 s3 => ?_
      refine ⟨(hk.thenS k2 fvb).thenS k3 fvb, ?_, by omega⟩
      have e1 : sgn l = -1 := by unfold sgn; rw [if_pos hn]
      rw [e1]
      have kk : Keep (One T.vb) w1 w3 := k2.trans k3 fun _ _ h => h
      rw [List.set_set, ← List.map_set] at h3
      refine ⟨?_, hT1.hrow.keep kk fun i hi h => hT.d5 (by have : i = T.vb := h; exact this ▸ hi), hT1.hlev.keep kk fun i hi h => hT.d8 (by have : i = T.vb := h; exact this ▸ hi), h3,
        hT1.htolds.keep1 kk (Ne.symm hT.d3), by simpa using hT.len, by simpa using hT.small, hT.d1, hT.d2, hT.d3, hT.d4, hT.d5, hT.d6, hT.d7, hT.d8, hT.d9, hT.d10⟩
      have := hT1.obj.keep1 kk hT.d1
      simpa using this
    · have hn : ¬ l < 0 := by simpa using hn
      refine ⟨hk.thenS k2 fvb, ?_, by omega⟩
      have e1 : sgn l = 1 := by unfold sgn; rw [if_neg hn]
      rw [e1]
      rw [← List.map_set] at h2
      refine ⟨?_, hT1.hrow.keep k2 fun i hi h => hT.d5 (by have : i = T.vb := h; exact this ▸ hi), hT1.hlev.keep k2 fun i hi h => hT.d8 (by have : i = T.vb := h; exact this ▸ hi), h2,
        hT1.htolds.keep1 k2 (Ne.symm hT.d3), by simpa using hT.len, by simpa using hT.small, hT.d1, hT.d2, hT.d3, hT.d4, hT.d5, hT.d6, hT.d7, hT.d8, hT.d9, hT.d10⟩
      simpa using hO2
  · rintro ⟨⟩ w3 ⟨k3, hT3, s3⟩
    have hTd := hT3.drew
    have kd := k3.drew
    have sd : w3.drew.heap.size = w.heap.size := s3
    generalize w3.drew = w4 at *
    have hl3 : (vals.set (l.natAbs - 1) (sgn l)).length = vals.length := by simp
    refine nn_of ?_
    refine ldC_of (hTd.obj.cell 3) (nn_of (ldC_of (hTd.obj.cell 1) (ixA_of (by omega) (by omega) ?_)))
    simp only [add_mk, Nat.zero_add, Nat.add_zero, hin]
    have htl : tolds.length = vals.length := hT.len
    refine st_of hTd.htolds (by rw [flat_two]; omega) rfl fun w5 h5 k5 s5 => ?_
    refine st_of h5 (by rw [List.length_set, flat_two]; omega) rfl fun w6 h6 k6 s6 => ?_
    rw [flat_set _ _ _ _ (by omega)] at h6
    have kk : Keep (One T.tb) w4 w6 := k5.trans k6 fun _ _ h => h
    have hO6 := hTd.obj.keep1 kk hT.d2
    have hrow6 := hTd.hrow.keep kk fun i hi h => hT.d6 (by have : i = T.tb := h; exact this ▸ hi)
    have hlev6 := hTd.hlev.keep kk fun i hi h => hT.d9 (by have : i = T.tb := h; exact this ▸ hi)
    have hvals6 := hTd.hvals.keep1 kk hT.d3
    have k6' : Keep T.F w w6 := kd.thenS kk ftb
    refine nn_of ?_
    refine ldC_of (hO6.cell 0) ?_
    refine alc_at fun b w7 hb h7 k7 => ?_
    have z7 := k7.size
    refine app_of (e := 3) (sz := 1) (z := I 0) (B := 8) Try.underlying26 (by kernel_rfl) rfl (by omega) (hrow6.keep0 k7) h7.news1 (fun u hu => ?_) (by simp only [maxLen]; omega) (by omega) fun p' c' w8 hO8 k8 hf8 => ?_
    · simp only [List.mem_singleton] at hu; subst hu; rfl
    refine nn_of ?_
    have z8 := k8.size
    have k7' : Keep T.F w w7 := k6'.then0 k7
    have k8' : Keep T.F w w8 := k7'.trans k8 fun i _ h => Or.inr (Or.inr (Or.inr (Or.inl h)))
    have old : ∀ {i}, T.F i → i < w.heap.size := fun h => hT.lt _ h
    have np : ∀ {i}, T.F i → ¬ ob T.rp i → ¬ ob p' i := fun h1 h2 h3 => by
      rcases hf8 _ h3 with h | h
      · exact h2 h
      · have := old h1; omega
    refine st_of ((hO6.keep0 k7).keep k8 hT.d4) (by simp) rfl fun w9 h9 k9 s9 => ?_
    refine ⟨by first | rfl | trivial, k8'.thenS k9 ft, { T with rp := p', rc := c' }, ⟨rfl, ?_⟩, rfl, ?_⟩
    · rintro i (h | h | h | h | h)
      · exact Or.inl (Or.inl h)
      · exact Or.inl (Or.inr (Or.inl h))
      · exact Or.inl (Or.inr (Or.inr (Or.inl h)))
      · rcases hf8 i h with h | h
        · exact Or.inl (Or.inr (Or.inr (Or.inr (Or.inl h))))
        · exact Or.inr (by omega)
      · exact Or.inl (Or.inr (Or.inr (Or.inr (Or.inr h))))
    · have olp : ∀ {i}, ob T.lp i → T.F i := fun h => Or.inr (Or.inr (Or.inr (Or.inr h)))
      refine ⟨?_, ?_, ?_, ?_, ?_, by simpa using hT.len, by simpa using hT.small, hT.d1, hT.d2, hT.d3, np ft hT.d4, np fvb hT.d5, np ftb hT.d6, hT.d7, hT.d8, hT.d9, ?_⟩
      · have : Blk w9 T.t [.slice p' (row.length + 1) c', .slice T.lp levels.length T.lc, S T.vb vals.length vals.length, S T.tb vals.length vals.length] 73 := by simpa [hl3] using h9
        show Blk w9 T.t [.slice p' (row ++ [l]).length c', .slice T.lp levels.length T.lc, S T.vb (vals.set (l.natAbs - 1) (sgn l)).length (vals.set (l.natAbs - 1) (sgn l)).length, S T.tb (vals.set (l.natAbs - 1) (sgn l)).length (vals.set (l.natAbs - 1) (sgn l)).length] 73
        rw [hl3, List.length_append]
        exact this
      · have := hO8.keep k9 (fun i hi h => np ft hT.d4 (by have : i = T.t := h; exact this ▸ hi))
        rw [List.length_append, List.map_append]
        exact this
      · have := ((hlev6.keep0 k7).keep k8 fun i hi h => hT.d10 i h hi).keep k9 fun i hi h => hT.d7 (by have : i = T.t := h; exact this ▸ hi)
        exact this
      · exact ((hvals6.keep0 k7).keep k8 hT.d5).keep1 k9 (Ne.symm hT.d1)
      · exact ((h6.keep0 k7).keep k8 hT.d6).keep1 k9 (Ne.symm hT.d2)
      · intro i h1 h2
        exact np (olp h2) (fun h => hT.d10 i h h2) h1

theorem TI.F_lp {T : TI} {i : Nat} (h : ob T.lp i) : T.F i := Or.inr (Or.inr (Or.inr (Or.inr h)))
theorem Moved.trans {w w1 : World} {T T1 T2 : TI} (h : Moved w T T1) (h' : Moved w1 T1 T2) (hs : w.heap.size ≤ w1.heap.size) : Moved w T T2 :=
  ⟨h'.1.trans h.1, fun i hi => by
    rcases h'.2 i hi with h1 | h1
    · exact h.2 i h1
    · exact Or.inr (by omega)⟩
theorem Moved.refl (w : World) (T : TI) : Moved w T T := ⟨rfl, fun _ h => Or.inl h⟩
/-- what is kept through two steps, the trail having moved between -/
theorem Keep.moved {w w1 w2 : World} {T T1 : TI} (k1 : Keep T.F w w1) (m : Moved w T T1) (k2 : Keep T1.F w1 w2) : Keep T.F w w2 :=
  k1.trans k2 fun i hi h => by
    rcases m.2 i h with h | h
    · exact h
    · omega
/-- a trail's answer and what becomes of it -/
def Laid (w : World) (T : TI) (row levels vals : List Int) (tolds : List (Int × Int)) (w' : World) : Prop :=
  Keep T.F w w' ∧ ∃ T', Moved w T T' ∧ TRep w' T' row levels vals tolds
theorem imply26 (hT : TRep w T row levels vals tolds) (l r : Int) (hl : -9223372036854775808 ≤ l) (hrow : row.length ≤ 1048576) (hfull : freeB vals l = 0 → row.length < 1048576) :
    Calls Try.prog 26 #[Pt T.t, I l, I r] w fun e w' =>
      (freeB vals l ≠ 0 ∧ e = .returned (I (freeB vals l)) ∧ Laid w T row levels vals tolds w') ∨
      (freeB vals l = 0 ∧ r < 0 ∧ e = .returned (I 2) ∧ Laid w T row levels vals tolds w') ∨
      (freeB vals l = 0 ∧ 0 ≤ r ∧ e = .returned (I 0) ∧ Laid w T (row ++ [l]) levels (vals.set (l.natAbs - 1) (sgn l)) (tolds.set (l.natAbs - 1) ((levels.length : Int), r)) w') := by
  let Q : Value → World → Prop := fun v w' =>
      (freeB vals l ≠ 0 ∧ v = (I (freeB vals l)) ∧ Laid w T row levels vals tolds w') ∨
      (freeB vals l = 0 ∧ r < 0 ∧ v = (I 2) ∧ Laid w T row levels vals tolds w') ∨
      (freeB vals l = 0 ∧ 0 ≤ r ∧ v = (I 0) ∧ Laid w T (row ++ [l]) levels (vals.set (l.natAbs - 1) (sgn l)) (tolds.set (l.natAbs - 1) ((levels.length : Int), r)) w')
  refine (V26_calls (some ⟨T.t, 0, none⟩) l r w Q ?_).mono fun e w' ⟨v, he, hv⟩ => ?_
  · unfold V26
    refine cl_of ok39 (free39 hT l hl) fun e w1 ⟨he, k1, hT1⟩ => ⟨_, he, ?_⟩
    have k1' : Keep T.F w w1 := k1.none
    refine pif_of (fun h => ?_) fun h => ?_
    · have h : freeB vals l ≠ 0 := by simpa using h
      exact Or.inl ⟨h, rfl, k1', T, Moved.refl _ _, hT1⟩
    · have h : freeB vals l = 0 := by simpa using h
      refine pif_of (fun h2 => ?_) fun h2 => ?_
      · have h2 : r < 0 := by simpa using h2
        exact Or.inr (Or.inl ⟨h, h2, rfl, k1', T, Moved.refl _ _, hT1⟩)
      · have h2 : 0 ≤ r := by simp at h2; omega
        have ho : ownB vals.length l = true := by
          unfold freeB at h
          split at h
          · assumption
          · cases h
        refine cl_of ok40 (lay40 hT1 l r hl ho (hfull h)) fun e w2 ⟨he, k2, T', m, _, hT2⟩ => ⟨he, Or.inr (Or.inr ⟨h, h2, rfl, ?_, T', ?_, hT2⟩)⟩
        · exact Keep.moved k1' (Moved.refl _ _) k2
        · exact (Moved.refl w T).trans m k1.size
  · rcases hv with ⟨a, b, c⟩ | ⟨a, b, c, d⟩ | ⟨a, b, c, d⟩
    · exact Or.inl ⟨a, by rw [he, b], c⟩
    · exact Or.inr (Or.inl ⟨a, b, by rw [he, c], d⟩)
    · exact Or.inr (Or.inr ⟨a, b, by rw [he, c], d⟩)

theorem decide18 (hT : TRep w T row levels vals tolds) (l : Int) (hl : -9223372036854775808 ≤ l) (hrow : row.length ≤ 1048576) (hlev : levels.length ≤ 1048576) (hfull : freeB vals l = 0 → row.length < 1048576) :
    Calls Try.prog 18 #[Pt T.t, I l] w fun e w' =>
      (freeB vals l ≠ 0 ∧ e = .returned (I (freeB vals l)) ∧ Laid w T row levels vals tolds w') ∨
      (freeB vals l = 0 ∧ e = .returned (I 0) ∧ Laid w T (row ++ [l]) (levels ++ [(row.length : Int)]) (vals.set (l.natAbs - 1) (sgn l)) (tolds.set (l.natAbs - 1) ((levels.length + 1 : Nat), -1)) w') := by
  let Q : Value → World → Prop := fun v w' =>
      (freeB vals l ≠ 0 ∧ v = (I (freeB vals l)) ∧ Laid w T row levels vals tolds w') ∨
      (freeB vals l = 0 ∧ v = (I 0) ∧ Laid w T (row ++ [l]) (levels ++ [(row.length : Int)]) (vals.set (l.natAbs - 1) (sgn l)) (tolds.set (l.natAbs - 1) ((levels.length + 1 : Nat), -1)) w')
  refine (V18_calls (some ⟨T.t, 0, none⟩) l w Q ?_).mono fun e w' ⟨v, he, hv⟩ => ?_
  · unfold V18
    refine cl_of ok39 (free39 hT l hl) fun e w1 ⟨he, k1, hT1⟩ => ⟨_, he, ?_⟩
    have k1' : Keep T.F w w1 := k1.none
    refine pif_of (fun h => ?_) fun h => ?_
    · have h : freeB vals l ≠ 0 := by simpa using h
      exact Or.inl ⟨h, rfl, k1', T, Moved.refl _ _, hT1⟩
    · have h : freeB vals l = 0 := by simpa using h
      have ho : ownB vals.length l = true := by
        unfold freeB at h
        split at h
        · assumption
        · cases h
      have hTd := hT1.drew
      have kd := k1'.drew
      have sd : w1.drew.heap.size = w1.heap.size := rfl
      generalize w1.drew = w2 at *
      have z1 := k1.size
      refine nn_of ?_
      simp only [add_mk, Nat.zero_add, Nat.add_zero, Nat.reduceAdd]
      refine ldC_of (hTd.obj.cell 1) (nn_of (ldC_of (hTd.obj.cell 0) ?_))
      refine alc_at fun b w3 hb h3 k3 => ?_
      have z3 := k3.size
      have hT3 := hTd.keep k3 fun _ _ h => h
      refine ⟨ldC_of (hT3.obj.cell 1) rfl, ?_⟩
      refine app_of (e := 77) (sz := 1) (z := .agg #[I 0]) (B := 8) Try.underlying71 (by kernel_rfl) rfl (by omega) hT3.hlev h3.news1 (fun u hu => ?_) (by simp only [maxLen]; omega) (by omega) fun p' c' w4 hO4 k4 hf4 => ?_
      · simp only [List.mem_singleton] at hu; subst hu; rfl
      refine nn_of ?_
      simp only [add_mk, Nat.zero_add, Nat.add_zero, Nat.reduceAdd]
      have z4 := k4.size
      have old : ∀ {i}, T.F i → i < w.heap.size := fun h => hT.lt _ h
      have np : ∀ {i}, T.F i → ¬ ob T.lp i → ¬ ob p' i := fun h1 h2 h3 => by
        rcases hf4 _ h3 with h | h
        · exact h2 h
        · have := old h1; omega
      have fvb : T.F T.vb := Or.inr (Or.inl rfl)
      have ftb : T.F T.tb := Or.inr (Or.inr (Or.inl rfl))
      have ft : T.F T.t := Or.inl rfl
      have frp : ∀ {i}, ob T.rp i → T.F i := fun h => Or.inr (Or.inr (Or.inr (Or.inl h)))
      refine st_of (hT3.obj.keep k4 hT.d7) (by simp) rfl fun w5 h5 k5 s5 => ?_
      have k5' : Keep T.F w w5 := ((kd.then0 k3).trans k4 fun i _ h => TI.F_lp h).thenS k5 ft
      have hT5 : TRep w5 { T with lp := p', lc := c' } row (levels ++ [(row.length : Int)]) vals tolds := by
        refine ⟨?_, ?_, ?_, ?_, ?_, hT.len, hT.small, hT.d1, hT.d2, hT.d3, hT.d4, hT.d5, hT.d6, np ft hT.d7, np fvb hT.d8, np ftb hT.d9, fun i h1 h2 => np (frp h1) (hT.d10 i h1) h2⟩
        · rw [List.length_append]
          exact h5
        · exact (hT3.hrow.keep k4 fun i hi h => hT.d10 i hi h).keep k5 fun i hi h => hT.d4 (by have : i = T.t := h; exact this ▸ hi)
        · have := hO4.keep k5 (fun i hi h => np ft hT.d7 (by have : i = T.t := h; exact this ▸ hi))
          rw [List.length_append, List.map_append]
          exact this
        · exact (hT3.hvals.keep k4 hT.d8).keep1 k5 (Ne.symm hT.d1)
        · exact (hT3.htolds.keep k4 hT.d9).keep1 k5 (Ne.symm hT.d2)
      have m5 : Moved w T { T with lp := p', lc := c' } := by
        refine ⟨rfl, ?_⟩
        rintro i (h | h | h | h | h)
        · exact Or.inl (Or.inl h)
        · exact Or.inl (Or.inr (Or.inl h))
        · exact Or.inl (Or.inr (Or.inr (Or.inl h)))
        · exact Or.inl (Or.inr (Or.inr (Or.inr (Or.inl h))))
        · rcases hf4 i h with h | h
          · exact Or.inl (TI.F_lp h)
          · exact Or.inr (by omega)
      refine cl_of ok40 (lay40 hT5 l (-1) hl ho (hfull h)) fun e w6 ⟨he, k6, T', m6, _, hT6⟩ => ⟨he, Or.inr ⟨h, rfl, Keep.moved k5' m5 k6, T', m5.trans m6 k5'.size, ?_⟩⟩
      rw [List.length_append] at hT6
      exact hT6
  · rcases hv with ⟨a, b, c⟩ | ⟨a, c, d⟩
    · exact Or.inl ⟨a, by rw [he, b], c⟩
    · exact Or.inr ⟨a, by rw [he, c], d⟩
end
end Go.Proofs.Ytioaaeianjgaoaa.Trail
