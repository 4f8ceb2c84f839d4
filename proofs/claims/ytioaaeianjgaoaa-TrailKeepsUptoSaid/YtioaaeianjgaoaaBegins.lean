/- TrailBegins: for which numbers there is a trail, and that nothing is known in it. -/
import Derived.Test.YtioaaeianjgaoaaTrail
set_option linter.unusedVariables false
set_option linter.unusedSimpArgs false
set_option maxRecDepth 100000
namespace Go.Proofs.Ytioaaeianjgaoaa.Trail
open Go Go.Proofs.Ytioaaeianjgaoaa.Vc Go.Proofs.Ytioaaeianjgaoaa.T

section
variable {w : World} {T : TI} {row levels vals : List Int} {tolds : List (Int × Int)}
/-- appending one int to a list of the call's own -/
theorem app_int {w w0 : World} {p : Option Addr} {n c b : Nat} {xs : List Int} {x : Int} {K : Option Addr → Nat → Nat → World → Prop}
    (hO : Own w 3 1 p n c (xs.map I)) (hB : Blk w b [I x] 3) (hn : n = xs.length) (hs : n < 1099511627776) (hf : ∀ i, ob p i → w0.heap.size ≤ i) (hw : w0.heap.size ≤ w.heap.size)
    (hk : ∀ p' c' w', Own w' 3 1 p' (n + 1) c' ((xs ++ [x]).map I) → (∀ i, ob p' i → w0.heap.size ≤ i) → Keep (ob p) w w' → K p' (n + 1) c' w') :
    ∃ (p' : Option Addr) (n' c' : Nat), ∃ w' : World, (Builtin.append_ #[26, 26] 26 #[.slice p n c, .slice (some ⟨b, 0, none⟩) 1 1]).run Try.prog w = .ok (.slice p' n' c') w' ∧ K p' n' c' w' := by
  refine app_of (e := 3) (sz := 1) (z := I 0) (B := 8) Try.underlying26 (by kernel_rfl) rfl (by omega) hO hB.news1 (fun u hu => ?_) (by simp only [maxLen]; omega) (by omega) fun p' c' w' hO' k hf' => ?_
  · simp only [List.mem_singleton] at hu; subst hu; rfl
  · refine hk p' c' w' (by simpa using hO') (fun i hi => ?_) k
    rcases hf' i hi with h | h
    · exact hf i h
    · omega
theorem Keep.app {w w1 w2 : World} {p : Option Addr} (h : Keep None w w1) (h' : Keep (ob p) w1 w2) (hf : ∀ i, ob p i → w.heap.size ≤ i) : Keep None w w2 :=
  h.trans h' fun i hi ho => by have := hf i ho; omega

theorem marks11 (hT : TRep w T row levels vals tolds) (hl : levels.length ≤ 1048576) :
    Calls Try.prog 11 #[Pt T.t] w fun e w' => ∃ v, e = .returned v ∧ Fresh w w' v levels ∧ Keep None w w' ∧ TRep w' T row levels vals tolds := by
  refine V11_calls (some ⟨T.t, 0, none⟩) w (fun v w' => Fresh w w' v levels ∧ Keep None w w' ∧ TRep w' T row levels vals tolds) ?_
  unfold V11
  refine nn_of ?_
  rw [add_mk]
  refine ldC_of (hT.obj.cell 1) ?_
  refine lp_of (fun s w1 => 0 ≤ s.2.1 ∧ s.2.1 ≤ levels.length ∧ s.1.2.1 = s.2.1.toNat ∧ Own w1 3 1 s.1.1 s.1.2.1 s.1.2.2 ((levels.take s.2.1.toNat).map I) ∧ (∀ i, ob s.1.1 i → w.heap.size ≤ i) ∧ Keep None w w1 ∧ TRep w1 T row levels vals tolds)
    (fun s _ => (levels.length - s.2.1).toNat) ⟨by simp, by simp, rfl, by simpa using Own.nil w 3 1, fun i ⟨a, h, _⟩ => (by cases h), Keep.refl _ _, hT⟩ ?_
  rintro ⟨⟨p, n, c⟩, i, ⟨⟩⟩ w1 ⟨i0, i1, hn, hO, hf, hk, hT1⟩
  simp only [] at i0 i1 hn hO hf ⊢
  refine pif_of (fun hlt => ?_) fun hge => ?_
  · have hlt : i < levels.length := by simpa using hlt
    refine hT1.hlev.ix i0 hlt fun b hb => ?_
    simp only [add_mk, Nat.zero_add, Nat.add_zero, Nat.mul_one]
    have hc := hT1.hlev
    rw [hb] at hc
    have hx : i.toNat < levels.length := by omega
    refine ldI_of (x := levels.getD i.toNat 0) (by rw [hc.cell _ (by omega), List.getElem?_map, getD_of (d := 0) hx]; rfl) ?_
    refine alc_at fun b2 w2 hb2 h2 k2 => ?_
    refine st_of h2 (by simp) rfl fun w3 h3 k3 _ => ?_
    refine ldI_of (h3.cell 0) ?_
    refine alc_at fun b4 w4 hb4 h4 k4 => ?_
    have s1 := hk.size
    have s2 := k2.size
    have s3 := k3.size
    have s4 := k4.size
    have hO4 := ((hO.keep0 k2).keep k3 fun j hj h => by have := hO.lt j hj; have h : j = b2 := h; omega).keep0 k4
    have hT4 := ((hT1.keep k2 fun _ _ h => h).keep k3 fun j hj h => by have := hT1.lt j hj; have h : j = b2 := h; omega).keep k4 fun _ _ h => h
    have hk4 : Keep None w w4 := ((hk.then0 k2).then1 k3 (by omega)).then0 k4
    refine app_int (w0 := w) (x := levels.getD i.toNat 0) hO4 h4 (by rw [List.length_take, hn]; omega) (by omega) hf (by omega) fun p' c' w5 hO5 hf5 k5 => ?_
    have ew : IntKind.wrap .i64 (i + 1) = i + 1 := by rw [IntKind.wrap_i64]; omega
    have et : (levels.take i.toNat ++ [levels.getD i.toNat 0]) = levels.take (i + 1).toNat := by
      rw [show (i + 1).toNat = i.toNat + 1 by omega, List.take_add_one, getD_of (d := 0) hx]; rfl
    rw [et] at hO5
    rw [ew]
    have hk5 : Keep None w w5 := Keep.app hk4 k5 hf
    refine ⟨⟨by omega, by omega, by omega, hO5, hf5, hk5, hT4.keep k5 fun j hj h => ?_⟩, by omega⟩
    have a1 := hf j h
    rcases hj with rfl | rfl | rfl | hj | hj
    all_goals first | (have := hT.lt _ (Or.inl rfl); omega) | (have := hT.lt _ (Or.inr (Or.inl rfl)); omega) | (have := hT.lt _ (Or.inr (Or.inr (Or.inl rfl))); omega) |
      (have := hT.lt _ (Or.inr (Or.inr (Or.inr (Or.inl hj)))); omega) | (have := hT.lt _ (Or.inr (Or.inr (Or.inr (Or.inr hj)))); omega)
  · have hge : ¬ i < levels.length := by simpa using hge
    have e1 : i.toNat = levels.length := by omega
    rw [e1, List.take_length] at hO
    rw [e1] at hn
    subst hn
    exact ⟨⟨p, c, rfl, hO, hf⟩, hk, hT1⟩
theorem back_same (hT : TRep w T row levels vals tolds) (hl : levels.length ≤ 1048576) :
    Calls Try.prog 12 #[Pt T.t, I levels.length] w fun e w' => e = .returned (.tuple #[.slice none 0 0, I 0]) ∧ w' = w := by
  refine (V12_calls (some ⟨T.t, 0, none⟩) levels.length w (fun v w' => v = .tuple #[.slice none 0 0, I 0] ∧ w' = w) ?_).mono fun e w' ⟨v, he, hv, hk⟩ => ⟨by rw [he, hv], hk⟩
  unfold V12
  have e1 : decide ((levels.length : Int) < 0) = false := by simp
  rw [e1]
  refine gd_t rfl (nn_of (gd_t rfl ?_))
  rw [add_mk]
  refine ldC_of (hT.obj.cell 1) ?_
  refine pif_f (by simp) (nn_of ?_)
  rw [add_mk]
  exact ldC_of (hT.obj.cell 1) (pif_t (by simp) ⟨rfl, rfl⟩)
end

def New9 (n : Int) (w : World) (v : Value) (w' : World) : Prop := Keep None w w' ∧
  ((¬ (0 ≤ n ∧ n ≤ 1048576) ∧ v = .tuple #[.pointer none, I 2]) ∨
   ((0 ≤ n ∧ n ≤ 1048576) ∧ ∃ T : TI, (∀ i, T.F i → w.heap.size ≤ i) ∧ v = .tuple #[Pt T.t, I 0] ∧ TRep w' T [] [] (List.replicate n.toNat 0) (List.replicate n.toNat (0, 0))))
theorem madeN2 (n : Nat) : (madeCells #[I 0, I 0] (n * 2)).toList = (List.replicate n ((0 : Int), (0 : Int))).flatMap two := by
  apply List.ext_getElem
  · rw [flat_two]; simp [size_madeCells]; omega
  · intro i h1 h2
    have e1 : (List.replicate n ((0 : Int), (0 : Int))).flatMap two = List.replicate (n * 2) (I 0) := by
      clear h1 h2
      induction n with
      | zero => rfl
      | succ n ih => rw [List.replicate_succ, List.flatMap_cons, ih, show (n + 1) * 2 = n * 2 + 1 + 1 by omega, List.replicate_succ, List.replicate_succ]; rfl
    simp only [e1, List.getElem_replicate]
    simp only [madeCells, Array.toList_map, List.getElem_map, Array.getElem_toList, Array.getElem_range]
    have : i % 2 = 0 ∨ i % 2 = 1 := by omega
    rcases this with h | h <;> simp [h]
/-- make of a slice of pairs -/
theorem mk2_of {w : World} {n : Int} {K : Option Addr → Nat → Nat → World → Prop} (h0 : 0 ≤ n) (hb : n ≤ 1048576)
    (h : ∀ b w', b = w.heap.size → Blk w' b ((List.replicate n.toNat ((0 : Int), (0 : Int))).flatMap two) 81 → Keep None w w' → K (some ⟨b, 0, none⟩) n.toNat n.toNat w') :
    ∃ (p : Option Addr) (l c : Nat), ∃ w' : World, (Instr.makeSlice 70 (.int .i64 n) (.int .i64 n)).run Try.prog w = .ok (.slice p l c) w' ∧ K p l c w' := by
  have hi0 : (Try.prog.info? 81).map (fun i => (i.zero, i.size, i.bytes)) = some (some (.agg #[I 0, I 0]), 2, 16) := by kernel_rfl
  obtain ⟨i, hi, hi'⟩ := Option.map_eq_some_iff.1 hi0
  simp only [Prod.mk.injEq] at hi'
  obtain ⟨hz, hsz, hby⟩ := hi'
  have hr := run_make (P := Try.prog) w 70 81 i _ Try.underlying70 hi hz .i64 .i64 n n h0 (Int.le_refl _) (by rw [hby]; omega) (by omega)
  refine ⟨_, _, _, _, hr, h _ _ rfl ?_ ((Keep.refl _ w).alloc _)⟩
  have e1 : madeCells (Value.agg #[I 0, I 0]).cells (n.toNat * i.size) = ((List.replicate n.toNat ((0 : Int), (0 : Int))).flatMap two).toArray := by
    apply Array.toList_inj.1
    rw [hsz]
    exact madeN2 _
  rw [e1]
  exact Blk.new w _ 81
theorem new9 (n : Int) (w : World) : Calls Try.prog 9 #[I n] w fun e w' => ∃ v, e = .returned v ∧ New9 n w v w' := by
  refine V9_calls n w (New9 n w) ?_
  unfold V9
  by_cases hn : 0 ≤ n ∧ n ≤ 1048576
  · have e1 : (cond (decide (n < 0)) true (decide (n > 1048576))) = false := by
      have h1 : ¬ n < 0 := by omega
      have h2 : ¬ n > 1048576 := by omega
      simp [h1]; omega
    have kd : Keep None w w.drew := (Keep.refl _ w).drew
    have sd : w.drew.heap.size = w.heap.size := rfl
    refine pif_f e1 ⟨?_, ?_⟩
    · refine mk_of Try.underlying69 (z := I8 0) (B := 1) (by kernel_rfl) rfl hn.1 (by omega) (by omega) fun vb w1 hvb hV k1 => ?_
      refine mk2_of hn.1 hn.2 fun tb w2 htb hB k2 => ?_
      refine alc_at fun t w3 ht hO k3 => ?_
      have l1 := hV.lt
      have l2 := hB.lt
      have z1 := k1.size
      have z2 := k2.size
      have hV3 := (hV.keep0 k2).keep0 k3
      have hB3 := hB.keep0 k3
      refine ⟨((kd.then0 k1).then0 k2).then0 k3, Or.inr ⟨hn, ⟨t, vb, tb, none, 0, none, 0⟩, ?_, rfl, ?_⟩⟩
      · rintro i (h | h | h | ⟨a, h, _⟩ | ⟨a, h, _⟩)
        · have h : i = t := h; omega
        · have h : i = vb := h; omega
        · have h : i = tb := h; omega
        · cases h
        · cases h
      · exact ⟨by simpa using hO, Own.nil _ _ _, Own.nil _ _ _, by simpa using hV3, hB3, by simp, by simp; omega, by show t ≠ vb; omega, by show t ≠ tb; omega, by show vb ≠ tb; omega,
          (fun ⟨a, h, _⟩ => by cases h), (fun ⟨a, h, _⟩ => by cases h), (fun ⟨a, h, _⟩ => by cases h), (fun ⟨a, h, _⟩ => by cases h), (fun ⟨a, h, _⟩ => by cases h), (fun ⟨a, h, _⟩ => by cases h), (fun i ⟨a, h, _⟩ => by cases h)⟩
    · refine mk2_of hn.1 hn.2 fun tb w2 htb hB k2 => ?_
      refine mk_of Try.underlying69 (z := I8 0) (B := 1) (by kernel_rfl) rfl hn.1 (by omega) (by omega) fun vb w1 hvb hV k1 => ?_
      refine alc_at fun t w3 ht hO k3 => ?_
      have l1 := hV.lt
      have l2 := hB.lt
      have z1 := k1.size
      have z2 := k2.size
      have hV3 := hV.keep0 k3
      have hB3 := (hB.keep0 k1).keep0 k3
      refine ⟨((kd.then0 k2).then0 k1).then0 k3, Or.inr ⟨hn, ⟨t, vb, tb, none, 0, none, 0⟩, ?_, rfl, ?_⟩⟩
      · rintro i (h | h | h | ⟨a, h, _⟩ | ⟨a, h, _⟩)
        · have h : i = t := h; omega
        · have h : i = vb := h; omega
        · have h : i = tb := h; omega
        · cases h
        · cases h
      · exact ⟨by simpa using hO, Own.nil _ _ _, Own.nil _ _ _, by simpa using hV3, hB3, by simp, by simp; omega, by show t ≠ vb; omega, by show t ≠ tb; omega, by show vb ≠ tb; omega,
          (fun ⟨a, h, _⟩ => by cases h), (fun ⟨a, h, _⟩ => by cases h), (fun ⟨a, h, _⟩ => by cases h), (fun ⟨a, h, _⟩ => by cases h), (fun ⟨a, h, _⟩ => by cases h), (fun ⟨a, h, _⟩ => by cases h), (fun i ⟨a, h, _⟩ => by cases h)⟩
  · have e1 : (cond (decide (n < 0)) true (decide (n > 1048576))) = true := by
      by_cases h1 : n < 0
      · simp [h1]
      · have : n > 1048576 := by omega
        simp [this]
    exact pif_t e1 ⟨Keep.refl _ _, Or.inl ⟨hn, rfl⟩⟩

theorem getD_rep (n i : Nat) : (List.replicate n (0 : Int)).getD i 0 = 0 := by
  rw [List.getD_eq_getElem?_getD, List.getElem?_replicate]; split <;> rfl
theorem law3 (n l : Int) (w : World) (hl : -9223372036854775808 ≤ l) : Calls Try.prog 3 #[I n, I l] w fun e w' => e = .returned (.bool true) ∧ RowKit.Below w.heap.size w w' := by
  refine (V3_calls n l w (fun v w' => v = .bool true ∧ Keep None w w') ?_).mono fun e w' ⟨v, he, hv, hk⟩ => ⟨by rw [he, hv], hk.below0⟩
  unfold V3
  refine cl_of ok9 (new9 n w) fun e w1 ⟨v, he, hk1, hv⟩ => ?_
  rcases hv with ⟨hn, rfl⟩ | ⟨hn, T, hF, rfl, hT⟩
  · refine ⟨_, _, he, pif_t ?_ ⟨rfl, hk1⟩⟩
    by_cases h1 : n < 0
    · simp [h1]
    · have : n > 1048576 := by omega
      simp [this]
  · refine ⟨_, _, he, pif_f ?_ (pif_f rfl ?_)⟩
    · have h1 : ¬ n < 0 := by omega
      have h2 : ¬ n > 1048576 := by omega
      simp [h1]; omega
    refine cl_of ok10 (lits10 hT (by simp)) fun e w2 ⟨v, he, ⟨p, c, hv, _, _⟩, k2, hT2⟩ => ⟨p, 0, c, by rw [he, hv]; rfl, ?_⟩
    refine cl_of ok11 (marks11 hT2 (by simp)) fun e w3 ⟨v, he, ⟨p3, c3, hv, _, _⟩, k3, hT3⟩ => ⟨p3, 0, c3, by rw [he, hv]; rfl, ?_⟩
    have hb3 := back_same hT3 (by simp)
    rw [List.length_nil] at hb3
    have hb4 : Calls Try.prog 12 #[Pt T.t, I 0] w3 fun e w' => e = .returned (.tuple #[.slice none 0 0, I 0]) ∧ w' = w3 := hb3
    refine cl_of ok12 hb4 fun e w4 ⟨he, hw⟩ => ⟨_, _, _, _, he, ?_⟩
    subst hw
    refine gd_t rfl (cl_of ok13 (level13 hT3) fun e w5 ⟨he, hw⟩ => ⟨_, he, ?_⟩)
    subst hw
    refine gd_t rfl (cl_of ok14 (value14 hT3 l hl) fun e w6 ⟨he, k6, hT6⟩ => ⟨_, he, ?_⟩)
    have ev : valB (List.replicate n.toNat 0) l = 0 := by
      unfold valB
      rw [getD_rep]
      split
      · split
        · rfl
        · rfl
      · rfl
    rw [ev]
    have ek : knownB (List.replicate n.toNat 0) (List.replicate n.toNat (0, 0)) l = none := by
      unfold knownB
      rw [getD_rep]
      simp
    refine gd_t rfl (cl_of ok15 (levelOf15 hT6 l hl) fun e w7 ⟨he, k7, hT7⟩ => ⟨_, he, ?_⟩)
    have e1 : levelB (List.replicate n.toNat 0) (List.replicate n.toNat (0, 0)) l = -1 := by unfold levelB; rw [ek]
    rw [e1]
    refine gd_t rfl (cl_of ok16 (reason16 hT7 l hl) fun e w8 ⟨he, k8, hT8⟩ => ⟨_, he, ?_⟩)
    have e2 : reasonB (List.replicate n.toNat 0) (List.replicate n.toNat (0, 0)) l = -1 := by unfold reasonB; rw [ek]
    rw [e2]
    exact ⟨rfl, ((((hk1.then0 k2).then0 k3).then0 k6).then0 k7).then0 k8⟩
end Go.Proofs.Ytioaaeianjgaoaa.Trail
