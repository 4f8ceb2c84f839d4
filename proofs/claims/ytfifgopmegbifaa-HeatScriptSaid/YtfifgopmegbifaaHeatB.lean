/- Take, Put and Order of a heat. -/
import Derived.Test.YtfifgopmegbifaaHeatA
set_option linter.unusedVariables false
set_option linter.unusedSimpArgs false
set_option maxRecDepth 100000
namespace Go.Proofs.Ytfifgopmegbifaa.Heat
open Go Go.Proofs.Ytfifgopmegbifaa.Vc Go.Proofs.Ytfifgopmegbifaa.T
open Go.Proofs.Ytfifgopmegbifaa.Sort (g swp g_swp swp_len swp_perm g_some g_mem g_set Cm Ar Sorted sortFunc)

/-- appending one cell where there is room -/
theorem app_in {w : World} {b bb c : Nat} {n : Nat} {cs : List Value} {v : Value} {K : Option Addr → Nat → Nat → World → Prop} (hB : Blk w b cs 3) (hB2 : Blk w bb [v] 3) (hn : n < c) (hc : cs.length = c) (ho : v.oneCell' = true)
    (hk : ∀ w', Blk w' b (cs.set n v) 3 → Keep (One b) w w' → K (some ⟨b, 0, none⟩) (n + 1) c w') :
    ∃ (p' : Option Addr) (n' c' : Nat), ∃ w' : World, (Builtin.append_ #[33, 33] 33 #[.slice (some ⟨b, 0, none⟩) n c, .slice (some ⟨bb, 0, none⟩) 1 1]).run Try.prog w = .ok (.slice p' n' c') w' ∧ K p' n' c' w' := by
  have hi0 : (Try.prog.info? 3).map (fun i => (i.zero, i.size, i.bytes)) = some (some (I 0), 1, 8) := by kernel_rfl
  obtain ⟨i, hi, hi'⟩ := Option.map_eq_some_iff.1 hi0
  simp only [Prod.mk.injEq] at hi'
  obtain ⟨hz, hsz, hby⟩ := hi'
  have hnews : ∀ j u, ([v] : List Value)[j]? = some u → w.cell? ((⟨bb, 0, none⟩ : Addr).add j) = some u := fun j u hu => by
    rw [add_mk, Nat.zero_add, hB2.cell]; exact hu
  have hr := run_append_room (P := Try.prog) w 33 33 3 i Try.underlying33 hi b n c cs.toArray hB ⟨bb, 0, none⟩ 1 1 [v] (by rw [hsz]; rfl) hnews (fun u hu => by simp only [List.mem_singleton] at hu; subst hu; exact ho) (by omega) (by rw [hsz]; simp; omega)
  refine ⟨_, _, _, _, hr, hk _ ?_ ⟨rfl, rfl, rfl, by simp, fun k _ hk' => setRow_other w b k _ (fun e => hk' e)⟩⟩
  have e : cs.set n v = cs.take (n * i.size) ++ [v] ++ cs.drop (n * i.size + [v].length) := by
    rw [hsz, Nat.mul_one, List.length_singleton, List.set_eq_take_append_cons_drop, if_pos (by omega)]
    simp
  rw [e]
  exact setRow_heap w b cs.toArray _ 3 _ hB
theorem nodup_bound : ∀ (n : Nat) (l : List Int), l.Nodup → (∀ x ∈ l, 1 ≤ x ∧ x ≤ n) → l.length ≤ n := by
  intro n
  induction n with
  | zero =>
    intro l _ h
    cases l with
    | nil => simp
    | cons x l => have := h x (by simp); omega
  | succ n ih =>
    intro l hd h
    by_cases hm : ((n + 1 : Nat) : Int) ∈ l
    · have h1 := List.length_erase_of_mem hm
      have h2 := ih (l.erase ((n + 1 : Nat) : Int)) (hd.erase _) fun x hx => by
        have hx' := (hd.mem_erase_iff).1 hx
        have := h x hx'.2
        have := hx'.1
        omega
      have : 0 < l.length := List.length_pos_of_mem hm
      omega
    · have := ih l hd fun x hx => by
        have := h x hx
        have : x ≠ ((n + 1 : Nat) : Int) := fun e => hm (e ▸ hx)
        omega
      omega
section
variable {n : Nat} {w : World} {Q : HI} {sc : List Nat} {step decay : Nat} {wb : List Bool} {it rest pl : List Int}
theorem isIn_set {v u : Int} (hv : 1 ≤ v ∧ v ≤ n) (hu : 1 ≤ u ∧ u ≤ n) (hl : wb.length = n) (b : Bool) : isIn (wb.set (v - 1).toNat b) u = if u = v then b else isIn wb u := by
  unfold isIn
  rw [List.getD_eq_getElem?_getD, List.getElem?_set]
  by_cases h : u = v
  · subst h
    rw [if_pos rfl, if_pos (by omega), if_pos rfl]; rfl
  · rw [if_neg (by omega), if_neg h, ← List.getD_eq_getElem?_getD]
/-- is nobody within? -/
def none' (n : Nat) (wb : List Bool) : Prop := ∀ v : Int, inA n wb v = false
/-- the first of those within -/
def First (n : Nat) (sc : List Nat) (wb : List Bool) (v : Int) : Prop := inA n wb v = true ∧ ∀ u, inA n wb u = true → bfw sc u v = false
theorem First.unique (hw : Wf n sc step decay wb) {v u : Int} (h : First n sc wb v) (h' : First n sc wb u) : v = u := by
  have rg : ∀ {v : Int}, inA n wb v = true → 1 ≤ v ∧ v ≤ n := fun h => by
    unfold inA at h
    simp only [Bool.and_eq_true, decide_eq_true_eq] at h
    exact h.1
  exact bfw_eq hw.nn hw.scl (rg h.1) (rg h'.1) (h'.2 v h.1) (h.2 u h'.1)
def Took (n : Nat) (w : World) (Q : HI) (sc : List Nat) (step decay : Nat) (wb : List Bool) (v : Value) (w' : World) : Prop :=
  (none' n wb ∧ v = .tuple #[I 0, .bool false] ∧ w' = w) ∨ ∃ x : Int, First n sc wb x ∧ v = .tuple #[I x, .bool true] ∧ Keep Q.F w w' ∧ PH n w' Q sc step decay (wb.set (x - 1).toNat false)
theorem take44 (r : PR n w Q sc step decay wb it rest pl) (hne : 0 < it.length) :
    Calls Try.prog 44 #[.pointer (some ⟨Q.h, 3, none⟩)] w fun e w' => e = .returned (I (g it 0)) ∧ Keep Q.F w w' ∧ PH n w' Q sc step decay (wb.set (g it 0 - 1).toNat false) := by
  let R : World → Prop := fun w' => Keep Q.F w w' ∧ PH n w' Q sc step decay (wb.set (g it 0 - 1).toNat false)
  refine (V44_calls (some ⟨Q.h, 3, none⟩) w (fun v w' => v = I (g it 0) ∧ R w') ?_).mono fun e w' ⟨v, he, hv, hk⟩ => ⟨by rw [he, hv], hk⟩
  unfold V44
  have hil := r.il
  have hns := r.wf.small
  have hR := r.rep
  have hpl := hR.len
  have hscl := r.wf.scl
  have g0 := r.fc.rng _ (g_mem (k := 0) hne)
  simp only [add_mk, Nat.add_zero, Nat.reduceAdd, Nat.zero_add]
  refine nn_of (ldC_of (hR.obj.cell 3) (ixA_of1 (by omega) (by omega) ?_))
  refine ldI_of (x := g it 0) (hR.item hne) ?_
  have e1 : IntKind.wrap .i64 (g it 0 - 1) = g it 0 - 1 := by rw [IntKind.wrap_i64]; omega
  rw [e1]
  refine nn_of (ldC_of (hR.obj.cell 4) (ixA_of1 (by omega) (by omega) ?_))
  simp only [add_mk, Nat.add_zero, Nat.reduceAdd, Nat.zero_add]
  refine st_of hR.places (by rw [List.length_map]; omega) rfl fun w1 h1 k1 _ => ?_
  rw [← List.map_set] at h1
  have hR1 : Rep w1 Q.h Q.sb Q.ib Q.pb sc step decay it rest (pl.set (g it 0 - 1).toNat (-1)) := by
    refine ⟨?_, hR.scores.keep1 k1 hR.sp, hR.items.keep1 k1 hR.ip, h1, by simpa using hpl, hR.hs, hR.hi, hR.hp, hR.si, hR.sp, hR.ip⟩
    have := hR.obj.keep1 k1 hR.hp
    simpa using this
  have k01 : Keep Q.F w w1 := k1.mono fun i _ (h : i = Q.pb) => by rw [h]; simp [HI.F, HF]
  obtain ⟨m, hm⟩ : ∃ m, it.length = m + 1 := ⟨it.length - 1, by omega⟩
  have hRd := hR1.drew
  have kd := k01.drew
  generalize w1.drew = w2 at *
  have e2 : IntKind.wrap .i64 ((it.length : Int) - 1) = (m : Int) := by rw [IntKind.wrap_i64]; omega
  refine nn_of ?_
  simp only [add_mk, Nat.add_zero, Nat.reduceAdd, Nat.zero_add]
  refine ldC_of (hRd.obj.cell 3) (nn_of ?_)
  simp only [add_mk, Nat.add_zero, Nat.reduceAdd, Nat.zero_add]
  refine ldC_of (hRd.obj.cell 3) ?_
  rw [e2]
  refine ixA_of1 (by omega) (by omega) (ldI_of (x := g it m) (by rw [Int.toNat_natCast]; exact hRd.item (by omega)) ?_)
  have hR2 := hRd.drew
  have kd2 := kd.drew
  generalize w2.drew = w3 at *
  refine nn_of ?_
  simp only [add_mk, Nat.add_zero, Nat.reduceAdd, Nat.zero_add]
  refine ldC_of (hR2.obj.cell 3) (nn_of ?_)
  simp only [add_mk, Nat.add_zero, Nat.reduceAdd, Nat.zero_add]
  refine ldC_of (hR2.obj.cell 3) ?_
  rw [e2]
  refine ⟨by omega, by omega, nn_of ?_⟩
  simp only [add_mk, Nat.add_zero, Nat.reduceAdd, Nat.zero_add]
  have esl : slA (some ⟨Q.ib, 0, none⟩) (it.length + rest.length) 0 1 = some ⟨Q.ib, 0, none⟩ := by
    unfold slA; split
    · rfl
    · simp [Addr.add]
  rw [esl, Int.toNat_natCast, Nat.sub_zero, Nat.sub_zero]
  refine st_of hR2.obj (by simp) rfl fun w4 h4 k4 _ => ?_
  -- the shorter list
  have ecut : it.take m ++ (it.drop m ++ rest) = it ++ rest := by rw [← List.append_assoc, List.take_append_drop]
  have lcut : (it.take m).length = m := by simp; omega
  have hR4 : Rep w4 Q.h Q.sb Q.ib Q.pb sc step decay (it.take m) (it.drop m ++ rest) (pl.set (g it 0 - 1).toNat (-1)) := by
    refine ⟨?_, hR2.scores.keep1 k4 (Ne.symm hR.hs), ?_, hR2.places.keep1 k4 (Ne.symm hR.hp), by simpa using hpl, hR.hs, hR.hi, hR.hp, hR.si, hR.sp, hR.ip⟩
    · have e3 : (it.drop m ++ rest).length + m = it.length + rest.length := by simp; omega
      have e4 : m + (it.drop m ++ rest).length = it.length + rest.length := by omega
      rw [lcut, e4]
      exact h4
    · rw [ecut]
      exact hR2.items.keep1 k4 (Ne.symm hR.hi)
  have k04 : Keep Q.F w w4 := kd2.thenS k4 (by simp [HI.F, HF])
  have hcap : (it.take m).length + (it.drop m ++ rest).length = n := by have := r.cap; rw [lcut]; simp; omega
  have hwb := r.wf.wbl
  -- who is within
  have gi : ∀ {k : Nat}, k < it.length → ∀ {v : Int}, it[k]? = some v ↔ g it k = v := fun hk => by
    intro v
    rw [g_some hk]
    exact ⟨fun h => by injection h, fun h => by rw [h]⟩
  have inj : ∀ {a b : Nat}, a < it.length → b < it.length → g it a = g it b → a = b := fun ha hb h => r.fc.inj (g_some ha) (by rw [h]; exact g_some hb)
  have plx : ∀ v : Int, 1 ≤ v → v ≤ n → v ≠ g it 0 → (pl.set (g it 0 - 1).toNat (-1))[(v - 1).toNat]? = pl[(v - 1).toNat]? := fun v v1 v2 hv => by
    rw [List.getElem?_set, if_neg (by omega)]
  have plx0 : (pl.set (g it 0 - 1).toNat (-1))[(g it 0 - 1).toNat]? = some (-1) := by
    rw [List.getElem?_set, if_pos rfl, if_pos (by omega)]
  refine ⟨fun _ w5 => R w5, ?_, fun _ w5 h => ⟨by first | rfl | trivial, h⟩⟩
  refine nn_of ?_
  simp only [add_mk, Nat.add_zero, Nat.reduceAdd, Nat.zero_add]
  refine ldC_of (h4.cell 3) ?_
  refine pif_of (fun hgt => ?_) fun hle => ?_
  · have hm0 : 0 < m := by simp at hgt; omega
    have gm := r.fc.rng _ (g_mem (k := m) (by omega))
    refine cl_of ok28 (hR4.lay (by omega) (a := 0) (by omega) gm.1 (by omega)) fun e w5 ⟨he, k5, hR5⟩ => ⟨he, ?_⟩
    have hf5 : FC sc.length ((it.take m).set 0 (g it m)) ((pl.set (g it 0 - 1).toNat (-1)).set (g it m - 1).toNat ((0 : Nat) : Int)) := by
      rw [hscl]
      have gL : ∀ i v, ((it.take m).set 0 (g it m))[i]? = some v → (i = 0 ∧ v = g it m) ∨ (0 < i ∧ i < m ∧ it[i]? = some v) := fun i v h => by
        rw [List.getElem?_set] at h
        by_cases hi : 0 = i
        · subst hi
          rw [if_pos rfl, if_pos (by omega)] at h
          injection h with h
          exact Or.inl ⟨rfl, h.symm⟩
        · rw [if_neg hi, List.getElem?_take] at h
          split at h
          · exact Or.inr ⟨by omega, by assumption, h⟩
          · cases h
      have gL2 : ∀ i, 0 < i → i < m → ((it.take m).set 0 (g it m))[i]? = it[i]? := fun i h1 h2 => by
        rw [List.getElem?_set, if_neg (by omega), List.getElem?_take, if_pos h2]
      have pm : ∀ v : Int, 1 ≤ v → v ≤ n → ((pl.set (g it 0 - 1).toNat (-1)).set (g it m - 1).toNat ((0 : Nat) : Int))[(v - 1).toNat]? = if v = g it m then some 0 else (pl.set (g it 0 - 1).toNat (-1))[(v - 1).toNat]? := fun v v1 v2 => by
        rw [List.getElem?_set]
        by_cases hv : v = g it m
        · rw [if_pos (by rw [hv]), if_pos (by simp; omega), if_pos hv]; rfl
        · rw [if_neg (by omega), if_neg hv]
      refine ⟨by simp; omega, fun i y hy => ?_, fun v v1 v2 hv => ?_⟩
      · rcases gL i y hy with ⟨rfl, rfl⟩ | ⟨i1, i2, hi⟩
        · exact ⟨gm.1, gm.2, by rw [pm _ gm.1 gm.2, if_pos rfl]; rfl⟩
        · have ha := r.fc.at' i y hi
          have hgy := (gi (by omega)).1 hi
          refine ⟨ha.1, ha.2.1, ?_⟩
          rw [pm y ha.1 ha.2.1, if_neg (fun h => by have := inj (a := i) (b := m) (by omega) (by omega) (by rw [hgy, h]); omega), plx y ha.1 ha.2.1 (fun h => by have := inj (a := i) (b := 0) (by omega) (by omega) (by rw [hgy, h]); omega)]
          exact ha.2.2
      · have vm : v ≠ g it m := fun h => hv 0 (by rw [List.getElem?_set, if_pos rfl, if_pos (by omega), h])
        rw [pm v v1 v2, if_neg vm]
        by_cases v0 : v = g it 0
        · rw [v0]; exact plx0
        · rw [plx v v1 v2 v0]
          refine r.fc.out v v1 v2 fun i hi => ?_
          have hil := (List.getElem?_eq_some_iff.1 hi).1
          have hg := (gi hil).1 hi
          by_cases i0 : i = 0
          · subst i0; exact v0 hg.symm
          · by_cases im : i = m
            · subst im; exact vm hg.symm
            · exact hv i (by rw [gL2 i (by omega) (by omega)]; exact hi)
    have l5 : ((it.take m).set 0 (g it m)).length = m := by simp; omega
    have hdn := down51 hR5 (by omega) (by rw [l5]; omega) hf5 (a := 0) (by rw [l5]; exact hm0)
    refine cl_of ok51 hdn fun e w6 ⟨he, hL⟩ => ⟨he, ?_⟩
    have eg0 : ((it.take m).set 0 (g it m)).getD 0 0 = g it m := by rw [List.getD_eq_getElem?_getD, List.getElem?_set, if_pos rfl, if_pos (by omega)]; rfl
    rw [eg0] at hL
    obtain ⟨k6, pl6, hR6, hF6⟩ := hL
    have k06 : Keep Q.F w w6 := (k04.trans k5 fun i _ h => by rcases h with h | h <;> simp [HI.F, HF, h]).trans k6 fun i _ h => by rcases h with h | h <;> simp [HI.F, HF, h]
    have ss : ((it.take m).set 0 (g it m)).set 0 (g it m) = (it.take m).set 0 (g it m) := by rw [List.set_set]
    have gsub : ∀ k, 0 < k → k < m → g ((it.take m).set 0 (g it m)) k = g it k := fun k h1 h2 => by
      unfold g
      rw [List.getD_eq_getElem?_getD, List.getElem?_set, if_neg (by omega), List.getElem?_take, if_pos h2, List.getD_eq_getElem?_getD]
    have hd := down_ok r.od 0 _ 0 ((it.take m).set 0 (g it m)) (g it m) rfl (by rw [l5]; exact hm0) (fun y hy => by
        rw [ss] at hy
        rcases List.mem_or_eq_of_mem_set hy with hy | hy
        · exact r.fc.rng y (List.mem_of_mem_take hy)
        · rw [hy]; exact gm) (fun k k1 k2 k3 k4 => by
        rw [l5] at k2
        rw [ss, gsub k (by omega) k2, gsub _ (by omega) (by omega)]
        exact r.hp k k1 (by omega)) (Or.inl rfl) (Nat.le_refl _)
    rw [ss] at hd
    refine ⟨k06, _, _, pl6, hR6, by rw [← hscl]; exact hF6, fun k k1 k2 => hd.1 k k1 (by rw [downL_len _ _ _ _ _ rfl] at k2; exact k2) (Nat.zero_le _), ?_, fun v v1 v2 => ?_, r.wf.set _ _⟩
    · rw [downL_len _ _ _ _ _ rfl, l5]; rw [lcut] at hcap; exact hcap
    · rw [hd.2.mem_iff, isIn_set (n := n) ⟨g0.1, g0.2⟩ ⟨v1, v2⟩ hwb]
      constructor
      · intro hv
        obtain ⟨i, hi⟩ := List.mem_iff_getElem?.1 hv
        rw [List.getElem?_set] at hi
        have hvi : ∃ j, 0 < j ∧ j < it.length ∧ it[j]? = some v := by
          by_cases h0 : 0 = i
          · subst h0
            rw [if_pos rfl, if_pos (by omega)] at hi
            injection hi with hi
            exact ⟨m, hm0, by omega, by rw [g_some (by omega), hi]⟩
          · rw [if_neg h0, List.getElem?_take] at hi
            split at hi
            · exact ⟨i, by omega, by omega, hi⟩
            · cases hi
        obtain ⟨j, j0, j1, hj⟩ := hvi
        rw [if_neg (fun h => by have := inj (a := j) (b := 0) j1 hne (by rw [(gi j1).1 hj, h]); omega)]
        exact (r.mem v v1 v2).1 (List.mem_of_getElem? hj)
      · intro hv
        have v0 : v ≠ g it 0 := fun h => by rw [if_pos h] at hv; cases hv
        rw [if_neg v0] at hv
        obtain ⟨j, hj⟩ := List.mem_iff_getElem?.1 ((r.mem v v1 v2).2 hv)
        have j1 := (List.getElem?_eq_some_iff.1 hj).1
        have hg := (gi j1).1 hj
        have j0 : j ≠ 0 := fun h => by subst h; exact v0 hg.symm
        by_cases jm : j = m
        · subst jm
          exact List.mem_of_getElem? (i := 0) (by rw [List.getElem?_set, if_pos rfl, if_pos (by omega), hg])
        · exact List.mem_of_getElem? (i := j) (by rw [List.getElem?_set, if_neg (by omega), List.getElem?_take, if_pos (by omega)]; exact hj)
  · have hm0 : m = 0 := by simp at hle; omega
    subst hm0
    refine ⟨k04, _, _, _, hR4, ⟨by simp; omega, fun i y hy => by simp at hy, fun v v1 v2 _ => ?_⟩, fun k k1 k2 => by simp at k2, hcap, fun v v1 v2 => ?_, r.wf.set _ _⟩
    · by_cases v0 : v = g it 0
      · rw [v0]; exact plx0
      · rw [plx v v1 v2 v0]
        refine r.fc.out v v1 v2 fun i hi => ?_
        have hil := (List.getElem?_eq_some_iff.1 hi).1
        obtain rfl : i = 0 := by omega
        exact v0 ((gi hil).1 hi).symm
    · rw [isIn_set (n := n) ⟨g0.1, g0.2⟩ ⟨v1, v2⟩ hwb]
      constructor
      · intro h; simp at h
      · intro hv
        have v0 : v ≠ g it 0 := fun h => by rw [if_pos h] at hv; cases hv
        rw [if_neg v0] at hv
        obtain ⟨j, hj⟩ := List.mem_iff_getElem?.1 ((r.mem v v1 v2).2 hv)
        have j1 := (List.getElem?_eq_some_iff.1 hj).1
        obtain rfl : j = 0 := by omega
        exact absurd ((gi j1).1 hj).symm v0
theorem PH.take (h : PH n w Q sc step decay wb) :
    Calls Try.prog 25 #[.pointer (some ⟨Q.h, 0, none⟩)] w fun e w' => ∃ v, e = .returned v ∧ Took n w Q sc step decay wb v w' := by
  obtain ⟨it, rest, pl, r⟩ := h
  refine V25_calls (some ⟨Q.h, 0, none⟩) w (Took n w Q sc step decay wb) ?_
  unfold V25
  refine nn_of ?_
  simp only [add_mk, Nat.add_zero, Nat.reduceAdd, Nat.zero_add]
  refine ldC_of (r.rep.obj.cell 3) (pif_of (fun h0 => ?_) fun h0 => ?_)
  · have h0 : it.length = 0 := by simpa using h0
    refine Or.inl ⟨fun v => ?_, rfl, rfl⟩
    cases hq : inA n wb v with
    | false => rfl
    | true =>
      have := (r.memA v).2 hq
      rw [List.eq_nil_of_length_eq_zero h0] at this
      cases this
  · have h0 : 0 < it.length := by
      have : ¬ it.length = 0 := by simpa using h0
      omega
    refine nn_of ?_
    simp only [add_mk, Nat.add_zero, Nat.reduceAdd, Nat.zero_add]
    refine cl_of ok44 (take44 r h0) fun e w' ⟨he, k, hp⟩ => ⟨_, he, Or.inr ⟨g it 0, ⟨(r.memA _).1 (g_mem h0), fun u hu => ?_⟩, rfl, k, hp⟩⟩
    obtain ⟨i, hi⟩ := List.mem_iff_getElem?.1 ((r.memA u).2 hu)
    have hlt := (List.getElem?_eq_some_iff.1 hi).1
    have := root_first r.od r.fc.rng r.hp i hlt
    rwa [g_of hi] at this
theorem PH.put (h : PH n w Q sc step decay wb) (v : Int) :
    Calls Try.prog 26 #[.pointer (some ⟨Q.h, 0, none⟩), I v] w fun e w' =>
      (¬ (1 ≤ v ∧ v ≤ n) ∧ e = .returned (I 2) ∧ w' = w) ∨ (inA n wb v = true ∧ e = .returned (I 50) ∧ w' = w) ∨
      ((1 ≤ v ∧ v ≤ n) ∧ inA n wb v = false ∧ e = .returned (I 0) ∧ Keep Q.F w w' ∧ PH n w' Q sc step decay (wb.set (v - 1).toNat true)) := by
  obtain ⟨it, rest, pl, r⟩ := h
  let P : Value → World → Prop := fun x w' => (¬ (1 ≤ v ∧ v ≤ n) ∧ x = I 2 ∧ w' = w) ∨ (inA n wb v = true ∧ x = I 50 ∧ w' = w) ∨
      ((1 ≤ v ∧ v ≤ n) ∧ inA n wb v = false ∧ x = I 0 ∧ Keep Q.F w w' ∧ PH n w' Q sc step decay (wb.set (v - 1).toNat true))
  refine (V26_calls (some ⟨Q.h, 0, none⟩) v w P ?_).mono fun e w' ⟨x, he, hx⟩ => ?_
  · unfold V26
    have hscl := r.wf.scl
    have hns := r.wf.small
    have hil := r.il
    refine cl_of ok29 (own29 r.rep v) fun e w1 ⟨he, hw⟩ => ⟨_, he, ?_⟩
    subst hw
    rw [hscl]
    refine pif_of (fun hb => ?_) fun hb => ?_
    · have hb : ¬ (1 ≤ v ∧ v ≤ n) := by
        intro h
        have : (decide (1 ≤ v) && decide (v ≤ (n : Int))) = true := by simp [h]
        rw [this] at hb; cases hb
      exact Or.inl ⟨hb, rfl, rfl⟩
    · have hv : 1 ≤ v ∧ v ≤ n := by
        have hb : (decide (1 ≤ v) && decide (v ≤ (n : Int))) = true := by simpa using hb
        simpa using hb
      obtain ⟨x, hx, hx2⟩ := r.place hv
      refine nn_of ?_
      simp only [add_mk, Nat.add_zero, Nat.reduceAdd, Nat.zero_add]
      refine cl_of ok30 (has30 r.rep hv.1 (by omega) (by omega) hx) fun e w2 ⟨he, hw⟩ => ⟨_, he, ?_⟩
      subst hw
      have hA : inA n wb v = isIn wb v := by unfold inA; simp [hv]
      refine pif_of (fun h1 => ?_) fun h1 => ?_
      · have h1 : 0 ≤ x := by simpa using h1
        exact Or.inr (Or.inl ⟨by rw [hA]; exact hx2.1 h1, rfl, rfl⟩)
      · have h1 : ¬ 0 ≤ x := by simpa using h1
        have hno : inA n wb v = false := by
          rw [hA]
          cases hq : isIn wb v with
          | false => rfl
          | true => exact absurd (hx2.2 hq) h1
        refine nn_of ?_
        simp only [add_mk, Nat.add_zero, Nat.reduceAdd, Nat.zero_add]
        have hnin : v ∉ it := fun h => by rw [(r.memA v).1 h] at hno; cases hno
        have hlt : it.length < n := by
          apply Classical.byContradiction
          intro hge
          have hfull : it.length = n := by have := r.cap; omega
          -- one more than there is room for
          have hnd : (v :: it).Nodup := by rw [List.nodup_cons]; exact ⟨hnin, r.fc.nodup⟩
          have hsub : ∀ y ∈ v :: it, 1 ≤ y ∧ y ≤ n := fun y hy => by
            rcases List.mem_cons.1 hy with rfl | hy
            · exact hv
            · exact r.fc.rng y hy
          have hperm := nodup_bound n (v :: it) hnd hsub
          simp at hperm
          omega
        have hput : Calls Try.prog 45 #[.pointer (some ⟨Q.h, 3, none⟩), I v] w2 fun e w' => e = .returned (.tuple #[]) ∧ Keep Q.F w2 w' ∧ PH n w' Q sc step decay (wb.set (v - 1).toNat true) := by
          refine (V45_calls (some ⟨Q.h, 3, none⟩) v w2 (fun y w' => y = .tuple #[] ∧ Keep Q.F w2 w' ∧ PH n w' Q sc step decay (wb.set (v - 1).toNat true)) ?_).mono fun e w' ⟨v, he, hv, hk⟩ => ⟨by rw [he, hv], hk⟩
          unfold V45
          simp only [add_mk, Nat.add_zero, Nat.reduceAdd, Nat.zero_add]
          refine nn_of (ldC_of (r.rep.obj.cell 3) ?_)
          refine alc_at fun b w3 hb3 h3 k3 => ?_
          have hR3 := r.rep.keep k3 fun _ _ h => h
          have hcap := r.cap
          obtain ⟨r0, rest', hrest⟩ : ∃ r0 rest', rest = r0 :: rest' := by
            cases rest with
            | nil => simp at hcap; omega
            | cons a b => exact ⟨a, b, rfl⟩
          have hbib : Q.ib ≠ b := by have := r.rep.items.lt; omega
          refine app_in hR3.items h3 (n := it.length) (c := it.length + rest.length) (by omega) (by simp) rfl fun w4 h4 k4 => nn_of ?_
          simp only [add_mk, Nat.add_zero, Nat.reduceAdd, Nat.zero_add]
          have k24 : Keep Q.F w2 w4 := k3.none.trans k4 fun i _ (h : i = Q.ib) => by rw [h]; simp [HI.F, HF]
          refine st_of (hR3.obj.keep1 k4 r.rep.hi) (by simp) rfl fun w5 h5 k5 _ => nn_of ?_
          simp only [add_mk, Nat.add_zero, Nat.reduceAdd, Nat.zero_add]
          have hR5 : Rep w5 Q.h Q.sb Q.ib Q.pb sc step decay (it ++ [v]) rest' pl := by
            refine ⟨?_, (hR3.scores.keep1 k4 r.rep.si).keep1 k5 (Ne.symm r.rep.hs), ?_, (hR3.places.keep1 k4 (Ne.symm r.rep.ip)).keep1 k5 (Ne.symm r.rep.hp), r.rep.len, r.rep.hs, r.rep.hi, r.rep.hp, r.rep.si, r.rep.sp, r.rep.ip⟩
            · have e3 : (it ++ [v]).length + rest'.length = it.length + rest.length := by rw [hrest]; simp; omega
              rw [e3, List.length_append]
              exact h5
            · have := h4.keep1 k5 (Ne.symm r.rep.hi)
              have e4 : ((it ++ rest).map I).set it.length (I v) = ((it ++ [v]) ++ rest').map I := by
                rw [hrest, ← List.map_set, List.set_append_right _ _ (Nat.le_refl _), Nat.sub_self, List.set_cons_zero, List.append_assoc]; rfl
              rwa [e4] at this
          have k25 : Keep Q.F w2 w5 := k24.thenS k5 (by simp [HI.F, HF])
          refine ldC_of (h5.cell 3) ?_
          have ew : IntKind.wrap .i64 (((it.length + 1 : Nat) : Int) - 1) = ((it.length : Nat) : Int) := by rw [IntKind.wrap_i64]; omega
          rw [ew]
          have hgl : g (it ++ [v]) it.length = v := g_of (by rw [List.getElem?_append_right (Nat.le_refl _), Nat.sub_self]; rfl)
          have hfc5 : FC n (it ++ [v]) (pl.set (v - 1).toNat (it.length : Int)) := by
            have hpll : pl.length = n := r.fc.len
            refine ⟨by simpa using hpll, fun i y hy => ?_, fun u u1 u2 hu => ?_⟩
            · by_cases hi : i < it.length
              · rw [List.getElem?_append_left hi] at hy
                have ha := r.fc.at' i y hy
                refine ⟨ha.1, ha.2.1, ?_⟩
                have hyv : y ≠ v := fun h => hnin (h ▸ List.mem_of_getElem? hy)
                rw [List.getElem?_set, if_neg (by omega)]; exact ha.2.2
              · have hil := (List.getElem?_eq_some_iff.1 hy).1
                rw [List.length_append, List.length_singleton] at hil
                obtain rfl : i = it.length := by omega
                rw [List.getElem?_append_right (Nat.le_refl _), Nat.sub_self, List.getElem?_cons_zero] at hy
                injection hy with hy
                subst hy
                exact ⟨hv.1, hv.2, by rw [List.getElem?_set, if_pos rfl, if_pos (by omega)]⟩
            · have huv : u ≠ v := fun h => hu it.length (by rw [List.getElem?_append_right (Nat.le_refl _), Nat.sub_self, h]; rfl)
              rw [List.getElem?_set, if_neg (by omega)]
              refine r.fc.out u u1 u2 fun i hi => hu i ?_
              rw [List.getElem?_append_left (List.getElem?_eq_some_iff.1 hi).1]; exact hi
          have hpc : PC sc.length (it ++ [v]) it.length ((it ++ [v]).getD it.length 0) pl := by
            have eg : (it ++ [v]).getD it.length 0 = v := hgl
            rw [eg]
            refine ⟨by simp, hv.1, by omega, ?_⟩
            have ss := set_same (L := it ++ [v]) (a := it.length) (by simp)
            rw [hgl] at ss
            rw [ss, hscl]; exact hfc5
          have hup := up31p hR5 (by omega) (by simp; omega) (a := it.length) (by simp) hpc
          refine cl_of ok31 hup fun e w6 ⟨he, hL⟩ => ⟨he, by first | rfl | trivial, ?_⟩
          obtain ⟨k6, pl6, hR6, hF6⟩ := hL
          have eg : (it ++ [v]).getD it.length 0 = g (it ++ [v]) it.length := rfl
          rw [eg] at hR6 hF6
          have ss := set_same (L := it ++ [v]) (a := it.length) (by simp)
          have rng5 := hfc5.rng
          have ga : ∀ k, k < it.length → g (it ++ [v]) k = g it k := fun k hk => by
            unfold g; rw [List.getD_eq_getElem?_getD, List.getD_eq_getElem?_getD, List.getElem?_append_left hk]
          have hu := up_ok r.od it.length (it ++ [v]) (g (it ++ [v]) it.length) (by simp) (by rw [ss]; exact rng5) (fun k k1 k2 k3 => by
              simp at k2
              rw [ss, ga k (by omega), ga _ (by omega)]
              exact r.hp k k1 (by omega)) (fun i1 k k1 k2 k3 => by simp at k2; omega)
          rw [ss] at hu
          refine ⟨k25.trans k6 fun i _ h => by rcases h with h | h <;> simp [HI.F, HF, h], _, rest', pl6, hR6, by rw [← hscl]; exact hF6, hu.1, ?_, fun u u1 u2 => ?_, r.wf.set _ _⟩
          · rw [upL_len]; rw [hrest] at hcap; simp at hcap ⊢; omega
          · rw [hu.2.mem_iff, isIn_set (n := n) hv ⟨u1, u2⟩ r.wf.wbl, List.mem_append, List.mem_singleton, r.mem u u1 u2]
            by_cases huv : u = v
            · simp [huv]
            · simp [huv]
        exact cl_of ok45 hput fun e w3 ⟨he, hk, hp⟩ => ⟨he, Or.inr (Or.inr ⟨hv, hno, rfl, hk, hp⟩)⟩
  · rcases hx with ⟨a, b, c⟩ | ⟨a, b, c⟩ | ⟨a, a2, b, c⟩
    · exact Or.inl ⟨a, by rw [he, b], c⟩
    · exact Or.inr (Or.inl ⟨a, by rw [he, b], c⟩)
    · exact Or.inr (Or.inr ⟨a, a2, by rw [he, b], c⟩)

/-- Order's list -/
def Ordd (n : Nat) (w : World) (sc : List Nat) (wb : List Bool) (v : Value) (w' : World) : Prop :=
  ∃ (p : Option Addr) (m c : Nat) (R : List Int), v = .slice p m c ∧ Own w' 3 1 p m c (R.map I) ∧ (∀ i, ob p i → w.heap.size ≤ i) ∧ Keep None w w' ∧ OrdL n sc wb R
theorem PH.order (h : PH n w Q sc step decay wb) :
    Calls Try.prog 15 #[.pointer (some ⟨Q.h, 0, none⟩)] w fun e w' => ∃ v, e = .returned v ∧ Ordd n w sc wb v w' := by
  have hlt := h.lt
  obtain ⟨it, rest, pl, r⟩ := h
  refine V15_calls (some ⟨Q.h, 0, none⟩) w (Ordd n w sc wb) ?_
  unfold V15
  have hil := r.il
  have hns := r.wf.small
  have hscl := r.wf.scl
  refine alc_at fun b w1 hb hB k1 => ?_
  have hR1 := r.rep.keep k1 fun _ _ h => h
  refine ldP_of (hB.cell 0) (nn_of ?_)
  simp only [add_mk, Nat.add_zero, Nat.reduceAdd, Nat.zero_add]
  refine ldC_of (hR1.obj.cell 3) ?_
  -- the copy
  have hcl : Calls Try.prog 33 #[.slice (some ⟨Q.ib, 0, none⟩) it.length (it.length + rest.length)] w1 fun e w' => ∃ p m c, e = .returned (.slice p m c) ∧ Own w' 3 1 p m c (it.map I) ∧ (∀ i, ob p i → w1.heap.size ≤ i) ∧ Keep None w1 w' := by
    refine (V33_calls (some ⟨Q.ib, 0, none⟩) it.length (it.length + rest.length) w1 (fun v w' => ∃ p m c, v = .slice p m c ∧ Own w' 3 1 p m c (it.map I) ∧ (∀ i, ob p i → w1.heap.size ≤ i) ∧ Keep None w1 w') ?_).mono
      fun e w' ⟨v, he, p, m, c, hv, hk⟩ => ⟨p, m, c, by rw [he, hv], hk⟩
    unfold V33
    refine pif_f rfl (alc_at fun b5 w2 hb5 h5 k5 => ?_)
    have hI2 := hR1.items.keep0 k5
    have hO : Own w2 3 1 (some ⟨b5, 0, none⟩) 0 0 [] := Or.inr ⟨b5, [], rfl, h5, Nat.le_refl _, Nat.zero_le _, rfl, rfl⟩
    have hN : News w2 1 (some ⟨Q.ib, 0, none⟩) it.length (it.length + rest.length) (it.map I) := Or.inr ⟨_, rfl, by simp, fun j u hu => by
      rw [add_mk, Nat.zero_add, hI2.cell, List.map_append, List.getElem?_append_left (by have := (List.getElem?_eq_some_iff.1 hu).1; simpa using this)]
      exact hu⟩
    refine app_of2 (e := 3) (sz := 1) (z := I 0) (B := 8) Try.underlying33 (by kernel_rfl) rfl (by omega) hO hN (fun u hu => ?_) (by simp only [maxLen]; omega) (by omega) fun p' c' w3 hO3 hd => ⟨p', _, c', rfl, by simpa using hO3, fun i hi => ?_, ?_⟩
    · obtain ⟨x, _, rfl⟩ := List.mem_map.1 hu; rfl
    · rcases hd with ⟨e, _, _, _⟩ | ⟨e, _⟩
      · rw [e] at hi; obtain ⟨a, ha, hb⟩ := hi; injection ha with ha; subst ha; simp only [] at hb; omega
      · have := e i hi; have := k5.size; omega
    · rcases hd with ⟨_, _, _, k⟩ | ⟨_, k⟩
      · exact k5.trans k fun i hi hh => by obtain ⟨a, ha, hb⟩ := hh; injection ha with ha; subst ha; simp only [] at hb; omega
      · exact k5.then0 k
  refine cl_of ok33 hcl fun e w2 ⟨p, m, c, he, hO, hnew, k2⟩ => ⟨_, _, _, he, ?_⟩
  have hml : m = it.length := by have := hO.len; simpa using this.symm
  have hR2 := hR1.keep k2 fun _ _ h => h
  have hB2 := hB.keep0 k2
  have z1 := k1.size
  have hlt2 : ∀ i, HF Q.h Q.sb Q.ib Q.pb i → i < w.heap.size := hlt
  have o := r.od
  have cm : Cm w2 p (.func (.func 35) #[] #[.pointer (some ⟨b, 0, none⟩)]) (fun v => 1 ≤ v ∧ v ≤ (n : Int)) (bfw sc) := by
    refine ⟨fun w' x y R hk hx hy hR => ?_, o.asym, o.trans⟩
    have hRk := hR2.keep hk fun i hi hh => by have := hlt2 i hi; have := hnew i hh; omega
    have hBk := hB2.keep hk fun hh => by have := hnew b hh; have := hB.lt; omega
    refine clF_of (cl_of (P := Try.prog) ok35 (?_ : Calls Try.prog 35 #[I x, I y, .pointer (some ⟨b, 0, none⟩)] w' fun e w'' => e = .returned (I (if bfw sc x y then -1 else 1)) ∧ w'' = w'.drew) fun e w'' ⟨he, hw⟩ => ?_)
    · refine (V35_calls x y ⟨b, 0, none⟩ w' (fun v w'' => v = I (if bfw sc x y then -1 else 1) ∧ w'' = w'.drew) ?_).mono fun e w' ⟨v, he, hv, hk⟩ => ⟨by rw [he, hv], hk⟩
      unfold V35
      refine ldP_of (hBk.cell 0) (cl_of ok27 (warmer27 hRk (by omega) hx.1 (by omega) hy.1 (by omega)) fun e w3 ⟨he, hw⟩ => ⟨_, he, ?_⟩)
      subst hw
      refine pif_of (fun h1 => ?_) fun h1 => ?_
      · rw [h1]; exact ⟨rfl, rfl⟩
      · rw [h1]; exact ⟨rfl, rfl⟩
    · rw [he]
      refine hR _ w'' ?_ (by rw [hw]; exact (Keep.refl _ _).drew)
      cases bfw sc x y <;> simp
  have hAr : Ar w2 p m c (fun v => 1 ≤ v ∧ v ≤ (n : Int)) w2 it := ⟨hO, Keep.refl _ _, r.fc.rng⟩
  refine cl_of ok34 (sortFunc cm (by omega) hAr) fun e w3 ⟨he, z, hz, hperm, hso, k3⟩ => ⟨he, p, m, c, z, rfl, hz.own, fun i hi => by have := hnew i hi; omega, ?_, ?_, fun v => ?_, ?_⟩
  · exact (k1.then0 k2).trans k3 fun i hi hh => by have := hnew i hh; omega
  · exact (hperm.nodup_iff).2 r.fc.nodup
  · rw [hperm.mem_iff]; exact r.memA v
  · rw [List.pairwise_iff_getElem]
    intro i j hi hj hij
    have hlz := hz.len
    have := hso i j (Nat.zero_le _) hij (by omega)
    rwa [g_of (List.getElem?_eq_getElem hi), g_of (List.getElem?_eq_getElem hj)] at this
end
end Go.Proofs.Ytfifgopmegbifaa.Heat
