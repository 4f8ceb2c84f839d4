/- Back takes all levels above one off. -/
import Derived.Test.YtioaaeianjgaoaaLay
set_option linter.unusedVariables false
set_option linter.unusedSimpArgs false
set_option maxRecDepth 100000
namespace Go.Proofs.Ytioaaeianjgaoaa.Trail
open Go Go.Proofs.Ytioaaeianjgaoaa.Vc Go.Proofs.Ytioaaeianjgaoaa.T

theorem slA_zero (p : Option Addr) (c sz : Nat) : slA p c 0 sz = p := by
  unfold slA
  split
  · rfl
  · cases p with
    | none => rfl
    | some a => simp [Addr.add]
def zap (vals : List Int) (ls : List Int) : List Int := ls.foldl (fun v l => v.set (l.natAbs - 1) 0) vals
theorem zap_len (ls : List Int) : ∀ vals : List Int, (zap vals ls).length = vals.length := by
  induction ls with
  | nil => intro v; rfl
  | cons l ls ih => intro v; show (zap (v.set _ 0) ls).length = _; rw [ih]; simp
theorem zap_snoc (vals ls : List Int) (l : Int) : zap vals (ls ++ [l]) = (zap vals ls).set (l.natAbs - 1) 0 := by simp [zap]

section
variable {w : World} {T : TI} {row levels vals : List Int} {tolds : List (Int × Int)}
/-- .. the list that it answers lies apart -/
def Gave (w : World) (T : TI) (row levels vals : List Int) (tolds : List (Int × Int)) (out : List Int) (v : Value) (w' : World) : Prop :=
  ∃ p c, v = .tuple #[.slice p out.length c, I 0] ∧ Own w' 3 1 p out.length c (out.map I) ∧ (∀ i, ob p i → w.heap.size ≤ i) ∧ Keep T.F w w' ∧ TRep w' T row levels vals tolds
theorem back_out (hT : TRep w T row levels vals tolds) {k : Int} (hk : k < 0 ∨ (levels.length : Int) < k) :
    Calls Try.prog 12 #[Pt T.t, I k] w fun e w' => e = .returned (.tuple #[.slice none 0 0, I 2]) ∧ w' = w := by
  refine (V12_calls (some ⟨T.t, 0, none⟩) k w (fun v w' => v = .tuple #[.slice none 0 0, I 2] ∧ w' = w) ?_).mono fun e w' ⟨v, he, hv, hk⟩ => ⟨by rw [he, hv], hk⟩
  unfold V12
  by_cases h : k < 0
  · have e1 : decide (k < 0) = true := by simpa using h
    rw [e1]
    exact gd_f rfl (gd_f rfl (pif_t rfl ⟨rfl, rfl⟩))
  · have e1 : decide (k < 0) = false := by simpa using h
    rw [e1]
    refine gd_t rfl (nn_of (gd_t rfl ?_))
    rw [add_mk]
    refine ldC_of (hT.obj.cell 1) (pif_t ?_ ⟨rfl, rfl⟩)
    simp; omega
theorem back12 (hT : TRep w T row levels vals tolds) {k : Nat} (hk : k < levels.length) (hrow : row.length ≤ 1048576) (hlev : levels.length ≤ 1048576) {fr : Nat} (hfr : levels[k]? = some (fr : Int)) (hfl : fr ≤ row.length)
    (hown : ∀ l ∈ row, ownB vals.length l = true) (hmin : ∀ l ∈ row, -9223372036854775808 ≤ l) :
    Calls Try.prog 12 #[Pt T.t, I k] w fun e w' => ∃ v, e = .returned v ∧ Gave w T (row.take fr) (levels.take k) (zap vals (row.drop fr).reverse) tolds (row.drop fr).reverse v w' := by
  refine V12_calls (some ⟨T.t, 0, none⟩) k w (Gave w T (row.take fr) (levels.take k) (zap vals (row.drop fr).reverse) tolds (row.drop fr).reverse) ?_
  unfold V12
  have e1 : decide ((k : Int) < 0) = false := by simp
  rw [e1]
  refine gd_t rfl (nn_of (gd_t rfl ?_))
  simp only [add_mk, Nat.zero_add, Nat.add_zero, Nat.reduceAdd]
  refine ldC_of (hT.obj.cell 1) (pif_f (by simp; omega) (nn_of (ldC_of (hT.obj.cell 1) (pif_f (by simp; omega) (nn_of (ldC_of (hT.obj.cell 1) ?_))))))
  refine hT.hlev.ix (by omega) (by omega) fun lb hlb => ?_
  simp only [add_mk, Nat.zero_add, Nat.add_zero, Nat.mul_one, Int.toNat_natCast]
  have hc := hT.hlev
  rw [hlb] at hc
  refine ldI_of (x := (fr : Int)) (by rw [hc.cell _ (by omega), List.getElem?_map, hfr]; rfl) (nn_of (ldC_of (hT.obj.cell 0) ?_))
  have e2 : IntKind.wrap .i64 ((row.length : Int) - 1) = (row.length : Int) - 1 := by rw [IntKind.wrap_i64]; omega
  rw [e2]
  have ft : T.F T.t := Or.inl rfl
  have fvb : T.F T.vb := Or.inr (Or.inl rfl)
  refine lp_of (fun s w1 => ∃ j : Nat, s.2.1 = (j : Int) - 1 ∧ fr ≤ j ∧ j ≤ row.length ∧ s.1.2.1 = row.length - j ∧ Own w1 3 1 s.1.1 s.1.2.1 s.1.2.2 ((row.drop j).reverse.map I) ∧ (∀ i, ob s.1.1 i → w.heap.size ≤ i) ∧
      Keep T.F w w1 ∧ TRep w1 T row levels (zap vals (row.drop j).reverse) tolds)
    (fun s _ => (s.2.1 + 1).toNat) ⟨row.length, rfl, hfl, Nat.le_refl _, by simp, by simpa using Own.nil w 3 1, fun i ⟨a, h, _⟩ => (by cases h), Keep.refl _ _, by simpa [zap] using hT⟩ ?_
  rintro ⟨⟨p, n, c⟩, k', ⟨⟩⟩ w1 ⟨j, rfl, j1, j2, rfl, hO, hf, hk1, hT1⟩
  simp only [] at hO hf ⊢
  have z1 := hk1.size
  refine pif_of (fun hge => ?_) fun hlt => ?_
  · have hge : fr < j := by simp at hge; omega
    obtain ⟨i, rfl⟩ : ∃ i, j = i + 1 := ⟨j - 1, by omega⟩
    have e3 : (((i + 1 : Nat) : Int) - 1) = (i : Int) := by omega
    rw [e3]
    have hi : i < row.length := by omega
    refine nn_of (ldC_of (hT1.obj.cell 0) ?_)
    refine hT1.hrow.ix (by omega) (by omega) fun rb hrb => ?_
    simp only [Nat.mul_one, Int.toNat_natCast]
    have hcr := hT1.hrow
    rw [hrb] at hcr
    have hx : row[i]? = some (row.getD i 0) := getD_of hi
    have hmem : row.getD i 0 ∈ row := List.mem_of_getElem? hx
    refine ldI_of (x := row.getD i 0) (by rw [hcr.cell _ (by omega), List.getElem?_map, hx]; rfl) ?_
    have hown1 := hown _ hmem
    have hown2 : ownB (zap vals (row.drop (i + 1)).reverse).length (row.getD i 0) = true := by rw [zap_len]; exact hown1
    refine cl_of ok37 (own37 hT1 _ (hmin _ hmem)) fun e w2 ⟨ii, he, hii, hw⟩ => ⟨_, _, he, ?_⟩
    have hT2 := rep_drew hT1 hw
    have hO2 : Own w2 3 1 p (row.length - (i + 1)) c ((row.drop (i + 1)).reverse.map I) := by rw [hw]; exact hO.drew
    have k2 : Keep T.F w w2 := by rw [hw]; exact hk1.drew
    have z2 : w2.heap.size = w1.heap.size := by rw [hw]; rfl
    have hlt := own_lt hown1
    have hzl := zap_len (row.drop (i + 1)).reverse vals
    rw [hii hown2]
    refine nn_of (ldC_of (hT2.obj.cell 2) (ixA_of1 (by omega) (by omega) ?_))
    simp only [add_mk, Nat.add_zero]
    rw [show (((row.getD i 0).natAbs : Int) - 1).toNat = (row.getD i 0).natAbs - 1 by omega]
    refine st_of hT2.hvals (by rw [List.length_map]; omega) rfl fun w3 h3 k3 s3 => ?_
    rw [← List.map_set] at h3
    refine alc_at fun b w4 hb h4 k4 => ?_
    have z4 := k4.size
    have hO4 := (hO2.keep k3 fun q hq h => by have := hf q hq; have := hT.lt _ fvb; have h : q = T.vb := h; omega).keep0 k4
    have k4' : Keep T.F w w4 := (k2.thenS k3 fvb).then0 k4
    have edrop : (row.drop i).reverse = (row.drop (i + 1)).reverse ++ [row.getD i 0] := by
      rw [List.drop_eq_getElem_cons hi, List.reverse_cons, List.getD_eq_getElem?_getD, List.getElem?_eq_getElem hi]; rfl
    have hT4 : TRep w4 T row levels (zap vals (row.drop i).reverse) tolds := by
      rw [edrop, zap_snoc]
      have hT3 : TRep w3 T row levels ((zap vals (row.drop (i + 1)).reverse).set ((row.getD i 0).natAbs - 1) 0) tolds := by
        refine ⟨?_, hT2.hrow.keep k3 fun q hq h => hT.d5 (by have : q = T.vb := h; exact this ▸ hq), hT2.hlev.keep k3 fun q hq h => hT.d8 (by have : q = T.vb := h; exact this ▸ hq), h3,
          hT2.htolds.keep1 k3 (Ne.symm hT.d3), by simpa using hT2.len, by simpa using hT2.small, hT.d1, hT.d2, hT.d3, hT.d4, hT.d5, hT.d6, hT.d7, hT.d8, hT.d9, hT.d10⟩
        have := hT2.obj.keep1 k3 hT.d1
        simpa using this
      exact hT3.keep k4 fun _ _ h => h
    refine app_int (w0 := w) (x := row.getD i 0) hO4 h4 (by simp) (by omega) hf (by omega) fun p' c' w5 hO5 hf5 k5 => ?_
    have e4 : IntKind.wrap .i64 ((i : Int) - 1) = (i : Int) - 1 := by rw [IntKind.wrap_i64]; omega
    rw [e4]
    rw [← edrop] at hO5
    refine ⟨⟨i, rfl, by omega, by omega, by omega, hO5, hf5, k4'.trans k5 fun q hq h => by have := hf q h; omega, hT4.keep k5 fun q hq h => by have := hf q h; have := hT.lt q hq; omega⟩, by omega⟩
  · have hj : j = fr := by simp at hlt; omega
    subst hj
    refine nn_of (ldC_of (hT1.obj.cell 0) ⟨by omega, by have := hT1.hrow.le; omega, nn_of ?_⟩)
    rw [slA_zero]
    refine st_of hT1.obj (by simp) rfl fun w2 h2 k2 s2 => nn_of (ldC_of (h2.cell 1) ⟨by omega, by have := hT1.hlev.le; omega, nn_of ?_⟩)
    rw [slA_zero]
    refine st_of h2 (by simp) rfl fun w3 h3 k3 s3 => ?_
    have kk : Keep (One T.t) w1 w3 := k2.trans k3 fun _ _ h => h
    have hfT : ∀ i, ob p i → i ≠ T.t := fun i hi h => by have := hf i hi; have := hT.lt _ ft; omega
    have el : (row.drop j).reverse.length = row.length - j := by simp
    refine ⟨p, c, by rw [el], by rw [el]; exact hO.keep kk fun i hi h => hfT i hi h, hf, hk1.thenS kk ft, ?_⟩
    have hrow3 := (hT1.hrow.cut j2).keep kk fun q hq h => hT.d4 (by have : q = T.t := h; exact this ▸ hq)
    have hlev3 := (hT1.hlev.cut (Nat.le_of_lt hk)).keep kk fun q hq h => hT.d7 (by have : q = T.t := h; exact this ▸ hq)
    have el1 : (row.take j).length = j := by simp; omega
    have el2 : (levels.take k).length = k := by simp; omega
    refine ⟨?_, ?_, ?_, hT1.hvals.keep1 kk (Ne.symm hT.d1), hT1.htolds.keep1 kk (Ne.symm hT.d2), hT1.len, hT1.small, hT.d1, hT.d2, hT.d3, hT.d4, hT.d5, hT.d6, hT.d7, hT.d8, hT.d9, hT.d10⟩
    · rw [el1, el2]
      simpa using h3
    · rw [el1, List.map_take]
      simpa using hrow3
    · rw [el2, List.map_take]
      simpa using hlev3
end
end Go.Proofs.Ytioaaeianjgaoaa.Trail
