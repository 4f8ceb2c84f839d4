/- The document's heat: its methods, up to Score. -/
import Derived.Test.YtfifgopmegbifaaHeatO
set_option linter.unusedVariables false
set_option linter.unusedSimpArgs false
set_option maxRecDepth 100000
namespace Go.Proofs.Ytfifgopmegbifaa.Heat
open Go Go.Proofs.Ytfifgopmegbifaa.Vc Go.Proofs.Ytfifgopmegbifaa.T
open Go.Proofs.Ytfifgopmegbifaa.Apart (RdL own_rdl wrap_nat Ls Sl sv Ag Lists getE own_len copy same apart take_snoc)

section
variable {w : World} {e : TypeId} {p : Option Addr} {n c i : Nat} {xs : List Value}
theorem own_at {K : Addr → Prop} (h : Own w e 1 p n c xs) (hi : i < n) (hK : ∀ a v, xs[i]? = some v → w.cell? a = some v → K a) : ixA p n (i : Int) 1 K := by
  have hl := h.len
  refine h.ix (by omega) (by omega) fun b hb => ?_
  rw [Nat.mul_one, Int.toNat_natCast]
  have h' := h
  rw [hb] at h'
  obtain ⟨v, hv⟩ := getE (show i < xs.length by omega)
  exact hK _ v hv (by rw [h'.cell _ (by omega), hv])
theorem own_set {v : Value} {K : World → Prop} (h : Own w e 1 p n c xs) (hi : i < n) (hv : v.oneCell' = true)
    (hK : ∀ w', Own w' e 1 p n c (xs.set i v) → Keep (ob p) w w' → K w') : ixA p n (i : Int) 1 fun a => st w (a.add 0) v K := by
  refine h.ix (by omega) (by omega) fun b hb => ?_
  rw [Nat.mul_one, Int.toNat_natCast, add_mk, Nat.add_zero]
  have h' := h
  rw [hb] at h'
  refine h'.st (by omega) hv fun w' hO hk _ => ?_
  refine hK w' ?_ (hk.mono fun j _ hj => ⟨_, hb, hj.symm⟩)
  rw [hb]
  exact hO
theorem app_one {t : TypeId} {B m : Nat} {z v : Value} {K : Option Addr → Nat → Nat → World → Prop} (ht : Try.prog.underlying t = some (.slice e)) (hi0 : (Try.prog.info? e).map (fun i => (i.zero, i.size, i.bytes)) = some (some z, 1, B)) (hz : z.cells.size = 1) (hB : B ≤ 64)
    (hv : v.oneCell' = true) (h : Own w e 1 p m c xs) (hm : m < 1099511627776)
    (hk : ∀ p' c' w', Own w' e 1 p' (m + 1) c' (xs ++ [v]) → Keep (ob p) w w' → (∀ i, ob p' i → ob p i ∨ w.heap.size ≤ i) → K p' (m + 1) c' w') :
    alc w [v] e fun b w7 => ∃ (p' : Option Addr) (n' c' : Nat), ∃ w' : World, (Builtin.append_ #[t, t] t #[.slice p m c, .slice (some ⟨b, 0, none⟩) 1 1]).run Try.prog w7 = .ok (.slice p' n' c') w' ∧ K p' n' c' w' := by
  refine alc_at fun b w7 hb7 h7 k7 => ?_
  have z7 := k7.size
  refine app_of2 (e := e) (sz := 1) (z := z) (B := B) ht hi0 hz (by omega) (h.keep0 k7) h7.news1 (fun u hu => ?_) (by simp only [maxLen]; omega) ?_ fun p' c' w' hO' hd => ?_
  · simp only [List.mem_singleton] at hu; subst hu; exact hv
  · have : (m + 1) * B ≤ 1099511627776 * 64 := Nat.mul_le_mul (by omega) hB
    omega
  · rcases hd with ⟨e1, e2, _, k⟩ | ⟨e1, k⟩
    · exact hk p' c' w' hO' ((k7.none).trans k fun _ _ h => h) fun i hi => Or.inl (by rw [← e1]; exact hi)
    · exact hk p' c' w' hO' ((k7.none).trans k.none fun _ _ h => h) fun i hi => Or.inr (by have := e1 i hi; omega)
end
/-- where the document's heat lies -/
structure MI where
  h : Nat
  sp : Option Addr
  sc : Nat
  wp : Option Addr
  wc : Nat
def MI.F (M : MI) (i : Nat) : Prop := i = M.h ∨ ob M.sp i ∨ ob M.wp i
structure MR (n : Nat) (w : World) (M : MI) (sc : List Nat) (step decay : Nat) (wb : List Bool) : Prop where
  obj : Blk w M.h [.slice M.sp n M.sc, .slice M.wp n M.wc, F step, F decay] 75
  scores : Own w 22 1 M.sp n M.sc (sc.map F)
  within : Own w 4 1 M.wp n M.wc (wb.map Value.bool)
  d1 : ¬ ob M.sp M.h
  d2 : ¬ ob M.wp M.h
  d3 : ∀ i, ob M.sp i → ¬ ob M.wp i
section
variable {n : Nat} {w w1 : World} {M : MI} {sc : List Nat} {step decay : Nat} {wb mb : List Bool}
theorem MR.keep {S : Nat → Prop} (h : MR n w M sc step decay wb) (hk : Keep S w w1) (hn : ∀ i, M.F i → ¬ S i) : MR n w1 M sc step decay wb :=
  ⟨h.obj.keep hk (hn _ (Or.inl rfl)), h.scores.keep hk fun i hi => hn i (Or.inr (Or.inl hi)), h.within.keep hk fun i hi => hn i (Or.inr (Or.inr hi)), h.d1, h.d2, h.d3⟩
theorem MR.keep0 (h : MR n w M sc step decay wb) (hk : Keep None w w1) : MR n w1 M sc step decay wb := h.keep hk fun _ _ h => h
theorem MR.drew (h : MR n w M sc step decay wb) : MR n w.drew M sc step decay wb := ⟨h.obj.drew, h.scores, h.within, h.d1, h.d2, h.d3⟩
theorem MR.lt (h : MR n w M sc step decay wb) : ∀ i, M.F i → i < w.heap.size := fun i hi => by
  rcases hi with rfl | hi | hi
  · exact h.obj.lt
  · exact h.scores.lt i hi
  · exact h.within.lt i hi
/-- the object's fields -/
theorem MR.set (h : MR n w M sc step decay wb) {s2 : Nat} {K : World → Prop} (hk : ∀ w', MR n w' M sc s2 decay wb → Keep M.F w w' → K w') : st w ⟨M.h, 2, none⟩ (F s2) K := by
  refine st_of h.obj (by simp) rfl fun w' hB k _ => hk w' ⟨by simpa using hB, h.scores.keep k fun i hi hh => h.d1 (by rw [show i = M.h from hh] at hi; exact hi), h.within.keep k fun i hi hh => h.d2 (by rw [show i = M.h from hh] at hi; exact hi), h.d1, h.d2, h.d3⟩ (k.mono fun i _ hi => Or.inl hi)
theorem MR.setS (h : MR n w M sc step decay wb) {i y : Nat} (hi : i < n) {K : World → Prop} (hk : ∀ w', MR n w' M (sc.set i y) step decay wb → Keep M.F w w' → K w') : ixA M.sp n (i : Int) 1 fun a => st w (a.add 0) (F y) K :=
  own_set h.scores hi rfl fun w' hO k => hk w' ⟨h.obj.keep k h.d1, by rw [List.map_set]; exact hO, h.within.keep k fun i hi hh => h.d3 i hh hi, h.d1, h.d2, h.d3⟩ (k.mono fun i _ hi => Or.inr (Or.inl hi))
theorem MR.setW (h : MR n w M sc step decay wb) {i : Nat} {b : Bool} (hi : i < n) {K : World → Prop} (hk : ∀ w', MR n w' M sc step decay (wb.set i b) → Keep M.F w w' → K w') : ixA M.wp n (i : Int) 1 fun a => st w (a.add 0) (.bool b) K :=
  own_set h.within hi rfl fun w' hO k => hk w' ⟨h.obj.keep k h.d2, h.scores.keep k fun i hi hh => h.d3 i hi hh, by rw [List.map_set]; exact hO, h.d1, h.d2, h.d3⟩ (k.mono fun i _ hi => Or.inr (Or.inr hi))
theorem MR.rdS (h : MR n w M sc step decay wb) {i : Nat} (hi : i < n) {K : Addr → Prop} (hK : ∀ a, w.cell? a = some (F (sc.getD i 0)) → K a) : ixA M.sp n (i : Int) 1 K :=
  own_at h.scores hi fun a v hv ha => hK a (by
    rw [List.getElem?_map] at hv
    obtain ⟨y, hy, rfl⟩ := Option.map_eq_some_iff.1 hv
    rw [ha, List.getD_eq_getElem?_getD, hy]; rfl)
theorem own_rdB {q : Option Addr} {qc : Nat} (h : Own w 4 1 q n qc (mb.map Value.bool)) {i : Nat} (hi : i < n) {K : Addr → Prop} (hK : ∀ a, w.cell? a = some (.bool (mb.getD i false)) → K a) : ixA q n (i : Int) 1 K :=
  own_at h hi fun a v hv ha => hK a (by
    rw [List.getElem?_map] at hv
    obtain ⟨y, hy, rfl⟩ := Option.map_eq_some_iff.1 hv
    rw [ha, List.getD_eq_getElem?_getD, hy]; rfl)
def Out (R : World → Prop) (v0 : Value) (v : Value) (w' : World) : Prop := v = v0 ∧ R w'
theorem out_of {k : FuncId} {args : Array Value} {v0 : Value} {R : World → Prop} (h : Calls Try.prog k args w fun e w' => ∃ v, e = .returned v ∧ Out R v0 v w') : Calls Try.prog k args w fun e w' => e = .returned v0 ∧ R w' :=
  h.mono fun e w' ⟨v, he, hv, hk⟩ => ⟨by rw [he, hv], hk⟩
theorem idx {v : Int} (hv : 1 ≤ v ∧ v ≤ n) (hn : n ≤ 1048576) : IntKind.wrap .i64 (v - 1) = (((v - 1).toNat : Nat) : Int) ∧ (v - 1).toNat < n := by
  rw [IntKind.wrap_i64]; omega
theorem score42 (h : MR n w M sc step decay wb) (hn : n ≤ 1048576) (v : Int) :
    Calls Try.prog 42 #[.pointer (some ⟨M.h, 0, none⟩), I v] w fun e w' => e = .returned (if 1 ≤ v ∧ v ≤ n then .tuple #[F (sc.getD (v - 1).toNat 0), I 0] else .tuple #[F 0, I 2]) ∧ w' = w := by
  refine out_of (V42_calls (some ⟨M.h, 0, none⟩) v w (Out (fun w' => w' = w) _) ?_)
  unfold V42
  by_cases h1 : v < 1
  · have e1 : (!decide (v < 1)) = false := by simpa using h1
    refine gd_f e1 (gd_f e1 (pif_t (by simp [h1]) ⟨?_, rfl⟩))
    rw [if_neg (by omega)]
  · have e1 : (!decide (v < 1)) = true := by simpa using h1
    refine gd_t e1 (nn_of (gd_t e1 ?_))
    simp only [add_mk, Nat.add_zero]
    refine ldC_of (h.obj.cell 0) ?_
    by_cases h2 : v ≤ n
    · refine pif_f (by simp [h1]; omega) (nn_of ?_)
      simp only [add_mk, Nat.add_zero]
      refine ldC_of (h.obj.cell 0) ?_
      obtain ⟨e2, hi⟩ := idx (v := v) ⟨by omega, h2⟩ hn
      rw [e2]
      refine h.rdS hi fun a ha => ldF_of ha ⟨?_, rfl⟩
      rw [if_pos ⟨by omega, h2⟩]
    · refine pif_t (by simp [h1]; omega) ⟨?_, rfl⟩
      rw [if_neg (by omega)]
theorem in41 (h : MR n w M sc step decay wb) (hn : n ≤ 1048576) (v : Int) :
    Calls Try.prog 41 #[.pointer (some ⟨M.h, 0, none⟩), I v] w fun e w' => e = .returned (.bool (inA n wb v)) ∧ w' = w := by
  refine out_of (V41_calls (some ⟨M.h, 0, none⟩) v w (Out (fun w' => w' = w) _) ?_)
  unfold V41
  by_cases h1 : 1 ≤ v
  · have e1 : decide (v ≥ 1) = true := by simpa using h1
    refine gd_t e1 (nn_of (gd_t e1 ?_))
    simp only [add_mk, Nat.add_zero]
    refine ldC_of (h.obj.cell 0) ?_
    by_cases h2 : v ≤ n
    · have e2 : (cond (decide (v ≥ 1)) (decide (v ≤ ((n : Nat) : Int))) false) = true := by rw [e1]; simpa using h2
      refine gd_t e2 (nn_of (gd_t e2 ?_))
      simp only [add_mk, Nat.add_zero, Nat.zero_add]
      refine ldC_of (h.obj.cell 1) (gd_t e2 ?_)
      obtain ⟨e3, hi⟩ := idx (v := v) ⟨h1, h2⟩ hn
      rw [e3]
      refine own_rdB h.within hi fun a ha => gd_t e2 (ldB_of ha ⟨?_, rfl⟩)
      rw [e2]
      unfold inA isIn
      rw [decide_eq_true h1, decide_eq_true h2]; 
      simp
    · have e2 : (cond (decide (v ≥ 1)) (decide (v ≤ ((n : Nat) : Int))) false) = false := by rw [e1]; simpa using h2
      refine gd_f e2 (gd_f e2 (gd_f e2 (gd_f e2 ⟨?_, rfl⟩)))
      rw [e2]
      unfold inA
      rw [decide_eq_false h2]; simp
  · have e1 : decide (v ≥ 1) = false := by simpa using h1
    refine gd_f e1 (gd_f e1 ?_)
    rw [e1]
    refine gd_f rfl (gd_f rfl (gd_f rfl (gd_f rfl ⟨?_, rfl⟩)))
    unfold inA
    rw [decide_eq_false h1]; rfl
theorem put40 (h : MR n w M sc step decay wb) (hn : n ≤ 1048576) (v : Int) :
    Calls Try.prog 40 #[.pointer (some ⟨M.h, 0, none⟩), I v] w fun e w' =>
      (¬ (1 ≤ v ∧ v ≤ n) ∧ e = .returned (I 2) ∧ w' = w) ∨ (inA n wb v = true ∧ e = .returned (I 50) ∧ w' = w) ∨
      ((1 ≤ v ∧ v ≤ n) ∧ inA n wb v = false ∧ e = .returned (I 0) ∧ Keep M.F w w' ∧ MR n w' M sc step decay (wb.set (v - 1).toNat true)) := by
  refine (V40_calls (some ⟨M.h, 0, none⟩) v w (fun r w' => (¬ (1 ≤ v ∧ v ≤ n) ∧ r = I 2 ∧ w' = w) ∨ (inA n wb v = true ∧ r = I 50 ∧ w' = w) ∨
      ((1 ≤ v ∧ v ≤ n) ∧ inA n wb v = false ∧ r = I 0 ∧ Keep M.F w w' ∧ MR n w' M sc step decay (wb.set (v - 1).toNat true))) ?_).mono fun e w' ⟨r, he, hr⟩ => ?_
  · unfold V40
    by_cases h1 : v < 1
    · have e1 : (!decide (v < 1)) = false := by simpa using h1
      exact gd_f e1 (gd_f e1 (pif_t (by simp [h1]) (Or.inl ⟨by omega, by first | rfl | trivial, by first | rfl | trivial⟩)))
    · have e1 : (!decide (v < 1)) = true := by simpa using h1
      refine gd_t e1 (nn_of (gd_t e1 ?_))
      simp only [add_mk, Nat.add_zero, Nat.zero_add]
      refine ldC_of (h.obj.cell 0) ?_
      by_cases h2 : v ≤ n
      · refine pif_f (by simp [h1]; omega) (nn_of ?_)
        simp only [add_mk, Nat.add_zero, Nat.zero_add]
        refine ldC_of (h.obj.cell 1) ?_
        obtain ⟨e2, hi⟩ := idx (v := v) ⟨by omega, h2⟩ hn
        rw [e2]
        refine own_rdB h.within hi fun a ha => ldB_of ha ?_
        have ein : inA n wb v = wb.getD (v - 1).toNat false := by
          unfold inA isIn
          rw [decide_eq_true (show 1 ≤ v by omega), decide_eq_true h2]; rfl
        rw [← ein]
        refine pif_of (fun hb => Or.inr (Or.inl ⟨hb, by first | rfl | trivial, by first | rfl | trivial⟩)) fun hb => nn_of ?_
        simp only [add_mk, Nat.add_zero, Nat.zero_add]
        refine ldC_of (h.obj.cell 1) ?_
        exact h.setW hi fun w' h' k => Or.inr (Or.inr ⟨⟨by omega, h2⟩, hb, by first | rfl | trivial, k, h'⟩)
      · exact pif_t (by simp [h1]; omega) (Or.inl ⟨by omega, by first | rfl | trivial, by first | rfl | trivial⟩)
  · rcases hr with ⟨a, b, c⟩ | ⟨a, b, c⟩ | ⟨a, a2, b, c⟩
    · exact Or.inl ⟨a, by rw [he, b], c⟩
    · exact Or.inr (Or.inl ⟨a, by rw [he, b], c⟩)
    · exact Or.inr (Or.inr ⟨a, a2, by rw [he, b], c⟩)
theorem take_snocN {cs : List Nat} {i : Nat} {x : Nat} (hx : cs[i]? = some x) : cs.take (i + 1) = cs.take i ++ [x] := by
  rw [List.take_add_one, hx]; rfl
theorem MR.reMap {sc2 : List Nat} (h : MR n w M sc step decay wb) (e : sc = sc2) : MR n w M sc2 step decay wb := e ▸ h
/-- noughts of the scores from i onwards -/
theorem scale49 (h : MR n w M sc step decay wb) (hw : Wf n sc step decay wb) :
    Calls Try.prog 49 #[.pointer (some ⟨M.h, 0, none⟩)] w fun e w' => e = .returned (.tuple #[]) ∧ Keep M.F w w' ∧ MR n w' M (sc.map fmul) (fmul step) decay wb := by
  refine out_of (R := fun w' => Keep M.F w w' ∧ MR n w' M (sc.map fmul) (fmul step) decay wb) (V49_calls (some ⟨M.h, 0, none⟩) w (Out _ _) ?_)
  unfold V49
  have hn := hw.small
  have hl := hw.scl
  refine lp_of (fun s w' => ∃ i : Nat, s.1 = (i : Int) ∧ i ≤ n ∧ Keep M.F w w' ∧ MR n w' M ((sc.take i).map fmul ++ sc.drop i) step decay wb) (fun s _ => (n - s.1).toNat)
    ⟨0, rfl, Nat.zero_le _, Keep.refl _ _, by simpa using h⟩ ?_
  rintro ⟨i', ⟨⟩⟩ w1 ⟨i, rfl, hi, k1, h1⟩
  refine nn_of ?_
  simp only [add_mk, Nat.add_zero, Nat.zero_add]
  refine ldC_of (h1.obj.cell 0) (pif_of (fun hlt => ?_) fun hge => ?_)
  · have hlt : i < n := by simpa using hlt
    rw [wrap_nat i (by omega)]
    have hd := h1.drew
    have kd : Keep M.F w w1.drew := k1.drew
    refine nn_of ?_
    simp only [add_mk, Nat.add_zero, Nat.zero_add]
    refine ldC_of (hd.obj.cell 0) (nn_of ?_)
    simp only [add_mk, Nat.add_zero, Nat.zero_add]
    refine ldC_of (hd.obj.cell 0) (hd.rdS hlt fun a ha => ldF_of ha ?_)
    have hx : sc[i]? = some (sc.getD i 0) := by rw [List.getD_eq_getElem?_getD, List.getElem?_eq_getElem (by omega)]; rfl
    have hlen : ((sc.take i).map fmul).length = i := by simp; omega
    have hg : ((sc.take i).map fmul ++ sc.drop i).getD i 0 = sc.getD i 0 := by
      rw [List.getD_eq_getElem?_getD, List.getElem?_append_right (by omega), hlen, List.getElem?_drop, Nat.sub_self, Nat.add_zero, hx]; rfl
    rw [hg]
    refine ⟨fmul (sc.getD i 0), (fmul_eq (hw.nn _ (getD_mem (by omega)))).1, hd.setS hlt fun w2 h2 k2 => ⟨⟨i + 1, rfl, hlt, kd.trans k2 fun i _ h => h, h2.reMap ?_⟩, by omega⟩⟩
    rw [List.set_append_right _ _ (by omega), hlen, Nat.sub_self, take_snocN hx, List.map_append, List.append_assoc]
    congr 1
    rw [List.drop_eq_getElem_cons (by omega)]
    rfl
  · have hge : i = n := by simp at hge; omega
    subst hge
    have e0 : (sc.take i).map fmul ++ sc.drop i = sc.map fmul := by rw [← hl, List.take_length, List.drop_length, List.append_nil]
    have h1 := h1.reMap e0
    refine nn_of ?_
    simp only [add_mk, Nat.add_zero, Nat.zero_add]
    refine ldF_of (h1.obj.cell 2) ⟨fmul step, (fmul_eq hw.st).1, nn_of ?_⟩
    simp only [add_mk, Nat.add_zero, Nat.zero_add]
    exact h1.set fun w2 h2 k2 => ⟨rfl, k1.trans k2 fun i _ h => h, h2⟩
theorem cool38 (h : MR n w M sc step decay wb) (hw : Wf n sc step decay wb) :
    Calls Try.prog 38 #[.pointer (some ⟨M.h, 0, none⟩)] w fun e w' => e = .returned (.tuple #[]) ∧ Keep M.F w w' ∧ MR n w' M (coolS sc step decay).1 (coolS sc step decay).2 decay wb := by
  refine out_of (R := fun w' => Keep M.F w w' ∧ MR n w' M (coolS sc step decay).1 (coolS sc step decay).2 decay wb) (V38_calls (some ⟨M.h, 0, none⟩) w (Out _ _) ?_)
  unfold V38
  have hs := fdiv_eq hw.st hw.dec
  have hd := h.drew
  refine nn_of ?_
  simp only [add_mk, Nat.add_zero, Nat.zero_add]
  refine ldF_of (hd.obj.cell 2) (nn_of ?_)
  simp only [add_mk, Nat.add_zero, Nat.zero_add]
  refine ldF_of (hd.obj.cell 3) ⟨fdiv step decay, hs.1, nn_of ?_⟩
  simp only [add_mk, Nat.add_zero, Nat.zero_add]
  refine hd.set fun w1 h1 k1 => nn_of ?_
  have k1 : Keep M.F w w1 := ((Keep.refl _ w).drew).trans k1 fun i _ h => h
  simp only [add_mk, Nat.add_zero, Nat.zero_add]
  refine ldF_of (h1.obj.cell 2) ?_
  unfold coolS
  refine pif_of (fun ho => ?_) fun ho => ?_
  · have ho : over (fdiv step decay) = true := ho
    rw [ho]
    refine cl_of ok49 (scale49 h1 ⟨hw.scl, hw.wbl, hw.small, hw.nn, hs.2, hw.dec⟩) fun e w2 ⟨he, k2, h2⟩ => ⟨he, rfl, k1.trans k2 fun i _ h => h, h2⟩
  · have ho : over (fdiv step decay) = false := ho
    rw [ho]
    exact ⟨rfl, k1, h1⟩
theorem bump37 (h : MR n w M sc step decay wb) (hw : Wf n sc step decay wb) (v : Int) :
    Calls Try.prog 37 #[.pointer (some ⟨M.h, 0, none⟩), I v] w fun e w' =>
      if 1 ≤ v ∧ v ≤ n then e = .returned (I 0) ∧ Keep M.F w w' ∧ MR n w' M (bumpS sc step v).1 (bumpS sc step v).2 decay wb else e = .returned (I 2) ∧ Keep None w w' := by
  have hn := hw.small
  by_cases hv : 1 ≤ v ∧ v ≤ n
  · simp only [if_pos hv]
    refine out_of (R := fun w' => Keep M.F w w' ∧ MR n w' M (bumpS sc step v).1 (bumpS sc step v).2 decay wb) (V37_calls (some ⟨M.h, 0, none⟩) v w (Out _ _) ?_)
    unfold V37
    have e1 : (!decide (v < 1)) = true := by simp; omega
    refine gd_t e1 (nn_of (gd_t e1 ?_))
    simp only [add_mk, Nat.add_zero, Nat.zero_add]
    refine ldC_of (h.obj.cell 0) (pif_f (by simp; omega) (nn_of ?_))
    have hd := h.drew
    simp only [add_mk, Nat.add_zero, Nat.zero_add]
    refine ldC_of (hd.obj.cell 0) (nn_of ?_)
    simp only [add_mk, Nat.add_zero, Nat.zero_add]
    obtain ⟨e2, hi⟩ := idx (v := v) hv hn
    rw [e2]
    have hk : (v - 1).toNat < sc.length := by have := hw.scl; omega
    have hs := fsum_eq (hw.nn _ (getD_mem hk)) hw.st
    refine ldC_of (hd.obj.cell 0) (hd.rdS hi fun a ha => ldF_of ha (nn_of ?_))
    simp only [add_mk, Nat.add_zero, Nat.zero_add]
    refine ldF_of (hd.obj.cell 2) ⟨_, hs.1, hd.setS hi fun w1 h1 k1 => ?_⟩
    have k1 : Keep M.F w w1 := ((Keep.refl _ w).drew).trans k1 fun i _ h => h
    unfold bumpS
    refine ⟨fun _ w' => Keep M.F w w' ∧ MR n w' M (if over (fsum (sc.getD (v - 1).toNat 0) step) then ((sc.set (v - 1).toNat (fsum (sc.getD (v - 1).toNat 0) step)).map fmul, fmul step) else (sc.set (v - 1).toNat (fsum (sc.getD (v - 1).toNat 0) step), step)).1
      (if over (fsum (sc.getD (v - 1).toNat 0) step) then ((sc.set (v - 1).toNat (fsum (sc.getD (v - 1).toNat 0) step)).map fmul, fmul step) else (sc.set (v - 1).toNat (fsum (sc.getD (v - 1).toNat 0) step), step)).2 decay wb, nn_of ?_, fun s w2 hh => ⟨rfl, hh⟩⟩
    simp only [add_mk, Nat.add_zero, Nat.zero_add]
    refine ldC_of (h1.obj.cell 0) (h1.rdS hi fun a ha => ldF_of ha ?_)
    have hg : (sc.set (v - 1).toNat (fsum (sc.getD (v - 1).toNat 0) step)).getD (v - 1).toNat 0 = fsum (sc.getD (v - 1).toNat 0) step := by
      rw [List.getD_eq_getElem?_getD, List.getElem?_set_self (by omega)]; rfl
    rw [hg]
    refine pif_of (fun ho => ?_) fun ho => ?_
    · have ho : over (fsum (sc.getD (v - 1).toNat 0) step) = true := ho
      rw [ho]
      refine cl_of ok49 (scale49 h1 ⟨by simpa using hw.scl, hw.wbl, hw.small, set_nn hw.nn hs.2.1, hw.st, hw.dec⟩) fun e w2 ⟨he, k2, h2⟩ => ⟨he, k1.trans k2 fun i _ h => h, h2⟩
    · have ho : over (fsum (sc.getD (v - 1).toNat 0) step) = false := ho
      rw [ho]
      exact ⟨k1, h1⟩
  · simp only [if_neg hv]
    refine out_of (R := fun w' => Keep None w w') (V37_calls (some ⟨M.h, 0, none⟩) v w (Out _ _) ?_)
    unfold V37
    by_cases h1 : v < 1
    · have e1 : (!decide (v < 1)) = false := by simpa using h1
      exact gd_f e1 (gd_f e1 (pif_t (by simp [h1]) ⟨rfl, Keep.refl _ _⟩))
    · have e1 : (!decide (v < 1)) = true := by simpa using h1
      refine gd_t e1 (nn_of (gd_t e1 ?_))
      simp only [add_mk, Nat.add_zero, Nat.zero_add]
      exact ldC_of (h.obj.cell 0) (pif_t (by simp; omega) ⟨rfl, Keep.refl _ _⟩)
end
end Go.Proofs.Ytfifgopmegbifaa.Heat
