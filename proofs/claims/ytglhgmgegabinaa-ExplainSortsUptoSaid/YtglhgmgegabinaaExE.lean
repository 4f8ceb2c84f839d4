/- ExplainSorts: its walk. -/
import Derived.Test.YtglhgmgegabinaaExD
set_option linter.unusedVariables false
set_option linter.unusedSimpArgs false
set_option linter.unusedSectionVars false
set_option maxRecDepth 100000
namespace Go.Proofs.Ytglhgmgegabinaa.Ex
open Go Go.Proofs.Ytglhgmgegabinaa.Vc Go.Proofs.Ytglhgmgegabinaa.T
open Go.Proofs.Ytglhgmgegabinaa.Sort (E JE ce fm fm_app fm_len fm_at fm_set)

def cx (x : E) : List Int := [x.1, x.2.1, x.2.2.1, x.2.2.2.1]
theorem ltE_at {x y : E} {i : Nat} {u v : Int} (hu : (cx x)[i]? = some u) (hv : (cx y)[i]? = some v) (he : ∀ j, j < i → (cx x)[j]? = (cx y)[j]?) (hne : u ≠ v) : ltE x y = decide (u < v) := by
  match i, hu, hv with
  | 0, hu, hv =>
    injection hu with hu; injection hv with hv; subst hu hv
    unfold ltE; rw [if_pos hne]
  | 1, hu, hv =>
    injection hu with hu; injection hv with hv; subst hu hv
    have h0 : x.1 = y.1 := by have := he 0 (by omega); injection this
    unfold ltE; rw [if_neg (by simpa using h0), if_pos hne]
  | 2, hu, hv =>
    injection hu with hu; injection hv with hv; subst hu hv
    have h0 : x.1 = y.1 := by have := he 0 (by omega); injection this
    have h1 : x.2.1 = y.2.1 := by have := he 1 (by omega); injection this
    unfold ltE; rw [if_neg (by simpa using h0), if_neg (by simpa using h1), if_pos hne]
  | 3, hu, hv =>
    injection hu with hu; injection hv with hv; subst hu hv
    have h0 : x.1 = y.1 := by have := he 0 (by omega); injection this
    have h1 : x.2.1 = y.2.1 := by have := he 1 (by omega); injection this
    have h2 : x.2.2.1 = y.2.2.1 := by have := he 2 (by omega); injection this
    unfold ltE; rw [if_neg (by simpa using h0), if_neg (by simpa using h1), if_neg (by simpa using h2)]
  | i + 4, hu, hv => cases hu
theorem ltE_end {x y : E} (he : ∀ j, j < 4 → (cx x)[j]? = (cx y)[j]?) : ltE x y = false := by
  have h0 : x.1 = y.1 := by have := he 0 (by omega); injection this
  have h1 : x.2.1 = y.2.1 := by have := he 1 (by omega); injection this
  have h2 : x.2.2.1 = y.2.2.1 := by have := he 2 (by omega); injection this
  have h3 : x.2.2.2.1 = y.2.2.2.1 := by have := he 3 (by omega); injection this
  rw [ltE_no, h0, h1, h2, h3]; omega
theorem below_lp {w W : World} {bx bY : Nat} {x y : E} {t : TypeId} (hx : Blk W bx (ce x) t) (hy : Blk W bY (ce y) t) (kW : Keep None w W) :
    lp (σ := Int × Unit) (fun s37 w13 k36 => match s37 with
      | (v35, _) =>
      pif (decide (v35 < 4)) (
        ixA (some (⟨bx, 0, none⟩ : Addr)) 4 v35 1 fun p39 =>
        ldI .i64 (World.drew w13) p39 fun x40 =>
        ixA (some (⟨bY, 0, none⟩ : Addr)) 4 v35 1 fun p41 =>
        ldI .i64 (World.drew w13) p41 fun x42 =>
        pif (x40 != x42) (
          ixA (some (⟨bx, 0, none⟩ : Addr)) 4 v35 1 fun p43 =>
          ldI .i64 (World.drew (World.drew w13)) p43 fun x44 =>
          ixA (some (⟨bY, 0, none⟩ : Addr)) 4 v35 1 fun p45 =>
          ldI .i64 (World.drew (World.drew w13)) p45 fun x46 =>
          Ans w (.bool (ltE x y)) (.bool (decide (x44 < x46))) (World.drew (World.drew w13))) (
          k36 ((IntKind.wrap .i64 (v35 + 1)), ()) (World.drew w13))) (
        Ans w (.bool (ltE x y)) (.bool false) w13)) (0, ()) W := by
  have rx : RdL W (some ⟨bx, 0, none⟩) 4 (cx x) := blk_rdl (xs := cx x) hx rfl
  have ry : RdL W (some ⟨bY, 0, none⟩) 4 (cx y) := blk_rdl (xs := cx y) hy rfl
  refine lp_of (fun s V => ∃ i : Nat, s.1 = (i : Int) ∧ i ≤ 4 ∧ (∀ j, j < i → (cx x)[j]? = (cx y)[j]?) ∧ Keep None W V) (fun s _ => (4 - s.1).toNat) ⟨0, rfl, by omega, (fun j hj => by omega), Keep.refl _ _⟩ ?_
  rintro ⟨i', ⟨⟩⟩ V ⟨i, rfl, hi, he, kV⟩
  simp only []
  refine pif_of (fun hlt => ?_) fun hge => ?_
  · have hlt : i < 4 := by simp at hlt; omega
    rw [wrap_nat i (by omega)]
    obtain ⟨u, hu⟩ := getE (show i < (cx x).length from hlt)
    obtain ⟨v, hv⟩ := getE (show i < (cx y).length from hlt)
    have k1 : Keep None W V.drew := kV.drew
    have k2 : Keep None W V.drew.drew := k1.drew
    refine (rx.keep0 k1).ix hu fun a ha => ldI_of ha ((ry.keep0 k1).ix hv fun b hb => ldI_of hb ?_)
    refine pif_of (fun h => ?_) fun h => ?_
    · have h : u ≠ v := by simpa using h
      refine (rx.keep0 k2).ix hu fun a ha => ldI_of ha ((ry.keep0 k2).ix hv fun b hb => ldI_of hb ?_)
      exact ⟨by rw [ltE_at hu hv he h], kW.then0 k2⟩
    · have h : u = v := by simpa using h
      refine ⟨⟨i + 1, rfl, hlt, fun j hj => ?_, k1⟩, by omega⟩
      by_cases hji : j = i
      · rw [hji, hu, hv, h]
      · exact he j (by omega)
  · have hge : i = 4 := by simp at hge; omega
    subst hge
    exact ⟨by rw [ltE_end he], kW.then0 kV⟩
theorem below8 (x y : E) (w : World) : Calls Try.prog 8 #[JE x, JE y] w fun e w' => e = .returned (.bool (ltE x y)) ∧ Keep None w w' := by
  refine ans_of (V8_calls x.1 x.2.1 x.2.2.1 x.2.2.2.1 y.1 y.2.1 y.2.2.1 y.2.2.2.1 w (Ans w _) ?_)
  unfold V8
  refine alc_at fun b2 w1 hb2 h2 k1 => ?_
  refine alc_at fun b3 w2 hb3 h3 k2 => ?_
  have dr : Keep None w2 w2.drew := (Keep.refl _ _).drew
  have a2 : AtF w2.drew ⟨b2, 0, none⟩ x := ((blk_at (x := x) h2).keep0 k2).keep0 dr
  have a3 : AtF w2.drew ⟨b3, 0, none⟩ y := (blk_at (x := y) h3).keep0 dr
  have kk := (k1.then0 k2).then0 dr
  generalize w2.drew = W at *
  refine ldI_of a2.1 (ldI_of a2.2.1 (ldI_of a2.2.2.1 (ldI_of a2.2.2.2 (ldI_of a3.1 (ldI_of a3.2.1 (ldI_of a3.2.2.1 (ldI_of a3.2.2.2 ⟨?_, ?_⟩)))))))
  · refine alc_at fun b12 w3 hb12 h12 k3 => ?_
    have b2' := a2.keep0 k3
    have b3' := a3.keep0 k3
    refine ⟨ldI_of b3'.2.2.2 rfl, ldI_of b3'.2.2.1 rfl, ldI_of b3'.2.1 rfl, ldI_of b3'.1 rfl, ldI_of b2'.2.2.2 rfl, ldI_of b2'.2.2.1 rfl, ldI_of b2'.2.1 rfl, ldI_of b2'.1 rfl, ?_⟩
    refine alc_at fun b21 w4 hb21 h21 k4 => ?_
    have c2 := b2'.keep0 k4
    have c3 := b3'.keep0 k4
    have l12 := h12.lt
    have h12 := h12.keep0 k4
    have z3 := k3.size
    refine ⟨ldI_of c3.2.2.2 rfl, ldI_of c3.2.2.1 rfl, ldI_of c3.2.1 rfl, ldI_of c3.1 rfl, ldI_of c2.2.2.2 rfl, ldI_of c2.2.2.1 rfl, ldI_of c2.2.1 rfl, ldI_of c2.1 rfl, ?_⟩
    simp only [add_mk, Nat.zero_add, Nat.add_zero]
    have l21 := h21.lt
    refine st_of h12 (by simp) rfl fun w5 h12 k5 _ => ?_
    refine st_of h12 (by simp) rfl fun w6 h12 k6 _ => ?_
    refine st_of h12 (by simp) rfl fun w7 h12 k7 _ => ?_
    refine st_of h12 (by simp) rfl fun w8 h12 k8 _ => ?_
    have k8' : Keep None W w8 := (((((k3.then0 k4).then1 k5 (by omega)).then1 k6 (by omega)).then1 k7 (by omega)).then1 k8 (by omega))
    have d3 := a3.keep0 k8'
    simp only [AtF, add_mk, Nat.zero_add, Nat.add_zero] at d3
    refine ⟨ldI_of d3.2.2.2 rfl, ldI_of d3.2.2.1 rfl, ldI_of d3.2.1 rfl, ldI_of d3.1 rfl, ?_⟩
    have h21 := (((h21.keep1 k5 (by omega)).keep1 k6 (by omega)).keep1 k7 (by omega)).keep1 k8 (by omega)
    refine st_of h21 (by simp) rfl fun w9 h21 k9 _ => ?_
    refine st_of h21 (by simp) rfl fun w10 h21 k10 _ => ?_
    refine st_of h21 (by simp) rfl fun w11 h21 k11 _ => ?_
    refine st_of h21 (by simp) rfl fun w12 h21 k12 _ => ?_
    have h12 := (((h12.keep1 k9 (by omega)).keep1 k10 (by omega)).keep1 k11 (by omega)).keep1 k12 (by omega)
    have k12' : Keep None W w12 := ((((k8'.then1 k9 (by omega)).then1 k10 (by omega)).then1 k11 (by omega)).then1 k12 (by omega))
    exact below_lp (x := x) (y := y) h12 h21 (kk.then0 k12')
  · refine alc_at fun b12 w3 hb12 h12 k3 => ?_
    have b2' := a2.keep0 k3
    have b3' := a3.keep0 k3
    refine ⟨ldI_of b3'.2.2.2 rfl, ldI_of b3'.2.2.1 rfl, ldI_of b3'.2.1 rfl, ldI_of b3'.1 rfl, ldI_of b2'.2.2.2 rfl, ldI_of b2'.2.2.1 rfl, ldI_of b2'.2.1 rfl, ldI_of b2'.1 rfl, ?_⟩
    refine alc_at fun b21 w4 hb21 h21 k4 => ?_
    have c2 := b2'.keep0 k4
    have c3 := b3'.keep0 k4
    have l12 := h12.lt
    have h12 := h12.keep0 k4
    have z3 := k3.size
    refine ⟨ldI_of c3.2.2.2 rfl, ldI_of c3.2.2.1 rfl, ldI_of c3.2.1 rfl, ldI_of c3.1 rfl, ldI_of c2.2.2.2 rfl, ldI_of c2.2.2.1 rfl, ldI_of c2.2.1 rfl, ldI_of c2.1 rfl, ?_⟩
    simp only [add_mk, Nat.zero_add, Nat.add_zero]
    have l21 := h21.lt
    refine st_of h21 (by simp) rfl fun w5 h21 k5 _ => ?_
    refine st_of h21 (by simp) rfl fun w6 h21 k6 _ => ?_
    refine st_of h21 (by simp) rfl fun w7 h21 k7 _ => ?_
    refine st_of h21 (by simp) rfl fun w8 h21 k8 _ => ?_
    have k8' : Keep None W w8 := (((((k3.then0 k4).then1 k5 (by omega)).then1 k6 (by omega)).then1 k7 (by omega)).then1 k8 (by omega))
    have d3 := a3.keep0 k8'
    simp only [AtF, add_mk, Nat.zero_add, Nat.add_zero] at d3
    refine ⟨ldI_of d3.2.2.2 rfl, ldI_of d3.2.2.1 rfl, ldI_of d3.2.1 rfl, ldI_of d3.1 rfl, ?_⟩
    have h12 := (((h12.keep1 k5 (by omega)).keep1 k6 (by omega)).keep1 k7 (by omega)).keep1 k8 (by omega)
    refine st_of h12 (by simp) rfl fun w9 h12 k9 _ => ?_
    refine st_of h12 (by simp) rfl fun w10 h12 k10 _ => ?_
    refine st_of h12 (by simp) rfl fun w11 h12 k11 _ => ?_
    refine st_of h12 (by simp) rfl fun w12 h12 k12 _ => ?_
    have h21 := (((h21.keep1 k9 (by omega)).keep1 k10 (by omega)).keep1 k11 (by omega)).keep1 k12 (by omega)
    have k12' : Keep None W w12 := ((((k8'.then1 k9 (by omega)).then1 k10 (by omega)).then1 k11 (by omega)).then1 k12 (by omega))
    exact below_lp (x := x) (y := y) h21 h12 (kk.then0 k12')
section
variable {w : World} {tp q : Option Addr} {tn tc m d : Nat} {os : List E} {cs : List Int}
theorem law4 (a b : Int) (hF : RdF w tp tn os) (htn : tn ≤ 1048576) (hC : RdL w q m cs) (hm : m ≤ 1048576) :
    Calls Try.prog 4 #[.agg #[I a, I b, .slice tp tn tc], .slice q m d] w fun e w' => e = .returned (.bool true) ∧ RowKit.Below w.heap.size w w' := by
  refine (ans_of (V4_calls a b tp tn tc q m d w (Ans w _) ?_)).mono fun e w' ⟨he, hk⟩ => ⟨he, hk.below0⟩
  unfold V4
  have hol := hF.len
  have hcl := hC.len
  refine alc_at fun b2 w1 hb2 hB k1 => ?_
  refine alc_at fun b4 w2 hb4 h4 k2 => ?_
  refine alc_at fun b5 w3 hb5 h5 k3 => ?_
  simp only [add_mk, Nat.zero_add, Nat.add_zero]
  have hB := (hB.keep0 k2).keep0 k3
  have k13 := (k1.then0 k2).then0 k3
  have f4 : RdF w3 (some ⟨b4, 0, none⟩) 3 [(6, 0, 0, 0, ()), (2, 0, 0, 0, ()), (6, 0, 0, 0, ())] := (blk_rdf (xs := [(6, 0, 0, 0, ()), (2, 0, 0, 0, ()), (6, 0, 0, 0, ())]) h4 rfl).keep0 k3
  have l5 : RdL w3 (some ⟨b5, 0, none⟩) 3 [0, 1, 2] := blk_rdl (xs := [0, 1, 2]) h5 rfl
  refine cl_of ok5 (reasons5 (tc := 3) (d := 3) 0 0 f4 (by omega) l5 (by omega)) fun e w4 ⟨v, he, code, p, c, L, hv, hS, hLl, hO, k4⟩ => ⟨_, _, _, _, he.trans (congrArg Ending.returned hv), ?_⟩
  have hS0 : RSpec 0 0 [(6, 0, 0, 0, ()), (2, 0, 0, 0, ()), (6, 0, 0, 0, ())] [0, 1, 2] 0 [(2, 0, 0, 0, ()), (6, 0, 0, 0, ())] := by
    refine Or.inr (Or.inr ⟨by unfold Bad; omega, fun i x hx => ?_, rfl, ?_, fun x => ?_⟩)
    · match i, hx with
      | 0, hx => injection hx with hx; subst hx; exact ⟨by omega, by simp, fun y h => by omega⟩
      | 1, hx => injection hx with hx; subst hx; exact ⟨by omega, by simp, fun y _ h => by injection h with h; omega⟩
      | 2, hx => injection hx with hx; subst hx; exact ⟨by omega, by simp, fun y _ h => by injection h with h; omega⟩
      | i + 3, hx => cases hx
    · unfold Srt
      refine List.pairwise_cons.2 ⟨fun y hy => ?_, List.pairwise_singleton ..⟩
      rw [List.mem_singleton.1 hy]; rfl
    · rw [List.mem_cons, List.mem_singleton]
      constructor
      · rintro (rfl | rfl)
        · exact ⟨1, 1, by simp, rfl, rfl⟩
        · exact ⟨0, 0, by simp, rfl, rfl⟩
      · rintro ⟨j, c, _, hc, hx⟩
        match j, hc with
        | 0, hc => injection hc with hc; subst hc; injection hx with hx; exact Or.inr hx.symm
        | 1, hc => injection hc with hc; subst hc; injection hx with hx; exact Or.inl hx.symm
        | 2, hc => injection hc with hc; subst hc; injection hx with hx; exact Or.inr hx.symm
        | j + 3, hc => cases hc
  obtain ⟨rfl, rfl⟩ := hS.uniq hS0
  refine gd_t rfl (alc_at fun b11 w5 hb11 h11 k5 => gd_t rfl ?_)
  have f11 : RdF w5 (some ⟨b11, 0, none⟩) 2 [(2, 0, 0, 0, ()), (6, 0, 0, 0, ())] := blk_rdf (xs := [(2, 0, 0, 0, ()), (6, 0, 0, 0, ())]) h11 rfl
  refine cl_of ok7 (same7 ((own_rdf hO).keep0 k5) f11 (by simp)) fun e w8 ⟨he, k8⟩ => ⟨_, he, ?_⟩
  rw [decide_eq_true rfl]
  refine pif_f rfl ?_
  have k18 := ((k13.then0 k4).then0 k5).then0 k8
  have hB8 := ((hB.keep0 k4).keep0 k5).keep0 k8
  refine ldI_of (hB8.cell 0) (ldI_of (hB8.cell 1) (ldC_of (hB8.cell 2) ?_))
  refine cl_of ok5 (reasons5 a b (hF.keep0 k18) htn (hC.keep0 k18) hm) fun e w9 ⟨v, he, code, lp', lc, L, hv, hS, hLl, hO, k9⟩ => ⟨_, _, _, _, he.trans (congrArg Ending.returned hv), ?_⟩
  have hB9 := hB8.keep0 k9
  have k19 := k18.then0 k9
  have hRL := own_rdf hO
  rcases hS with ⟨_, rfl, rfl⟩ | ⟨_, _, rfl, rfl⟩ | ⟨hnb, hri, rfl, hsr, hmem⟩
  · exact pif_t rfl ⟨rfl, k19⟩
  · exact pif_t rfl ⟨rfl, k19⟩
  refine pif_f rfl ?_
  -- sorted
  refine lp_of (fun s W => ∃ i : Nat, s.1 = (i : Int) ∧ 1 ≤ i ∧ (i ≤ L.length ∨ i = 1) ∧ Keep None w9 W) (fun s _ => (L.length - s.1).toNat) ⟨1, rfl, Nat.le_refl _, Or.inr rfl, Keep.refl _ _⟩ ?_
  rintro ⟨i', ⟨⟩⟩ w10 ⟨i, rfl, hi1, hi2, k10⟩
  simp only []
  refine pif_of (fun hlt => ?_) fun hge => ?_
  · have hlt : i < L.length := by simpa using hlt
    rw [wrap_nat i (by omega), wrap_dec i (by omega) hi1]
    obtain ⟨x, hx⟩ := getE (show i - 1 < L.length by omega)
    obtain ⟨y, hy⟩ := getE hlt
    have kd : Keep None w9 w10.drew := k10.drew
    refine (hRL.keep0 kd).ix hx fun a1 h1 => h1.ld ((hRL.keep0 kd).ix hy fun a2 h2 => h2.ld ?_)
    refine cl_of ok8 (below8 x y _) fun e w11 ⟨he, k11⟩ => ⟨_, he, ?_⟩
    have hxy : ltE x y = true := by
      obtain ⟨hx1, hx2⟩ := List.getElem?_eq_some_iff.1 hx
      obtain ⟨hy1, hy2⟩ := List.getElem?_eq_some_iff.1 hy
      have := (List.pairwise_iff_getElem.1 hsr) (i - 1) i hx1 hy1 (by omega)
      rwa [hx2, hy2] at this
    rw [hxy]
    exact pif_f rfl ⟨⟨i + 1, rfl, by omega, Or.inl hlt, kd.then0 k11⟩, by omega⟩
  -- each origin is there
  refine lp_of (fun s W => ∃ i : Nat, s.1 = (i : Int) ∧ i ≤ m ∧ Keep None w9 W) (fun s _ => (m - s.1).toNat) ⟨0, rfl, Nat.zero_le _, k10⟩ ?_
  rintro ⟨i', ⟨⟩⟩ w12 ⟨i, rfl, hi, k12⟩
  simp only []
  refine pif_of (fun hlt => ?_) fun hge => ?_
  · have hlt : i < m := by simpa using hlt
    rw [wrap_nat i (by omega)]
    obtain ⟨c, hc⟩ := getE (show i < cs.length by omega)
    obtain ⟨c0, c1, _⟩ := hri i c hc
    obtain ⟨x, hx⟩ := getE (show c.toNat < os.length by omega)
    have ec : ((c.toNat : Nat) : Int) = c := by omega
    have kd : Keep None w9 w12.drew := k12.drew
    have kw := k19.then0 kd
    have hCd := hC.keep0 kw
    have hFd := hF.keep0 kw
    have hBd := hB9.keep0 kd
    generalize w12.drew = W at *
    refine hCd.ix hc fun a1 h1 => ldI_of h1 ?_
    have e0 : decide (c < 0) = false := by simp; omega
    rw [e0]
    refine gd_t rfl (hCd.ix hc fun a1 h1 => gd_t rfl (ldI_of h1 ?_))
    simp only []
    refine gd_t rfl (ldC_of (hBd.cell 2) ?_)
    have e1 : decide (c ≥ (tn : Int)) = false := by simp; omega
    simp only [e1]
    refine gd_t rfl (ldC_of (hBd.cell 2) ?_)
    refine gd_t rfl (hCd.ix hc fun a1 h1 => gd_t rfl (ldI_of h1 ?_))
    refine gd_t rfl ?_
    simp only []
    rw [← ec]
    refine hFd.ix hx fun a2 h2 => gd_t rfl (h2.ld (gd_t rfl ?_))
    refine cl_of ok9 (among9 (hRL.keep0 kd) (by omega) x) fun e w13 ⟨he, k13'⟩ => ⟨_, he, ?_⟩
    have hxL : x ∈ L := (hmem x).2 ⟨i, c, by omega, hc, hx⟩
    rw [decide_eq_true hxL]
    exact pif_f rfl ⟨⟨i + 1, rfl, hlt, kd.then0 k13'⟩, by omega⟩
  -- nothing else is there
  refine lp_of (fun s W => ∃ k : Nat, s.1 = (k : Int) ∧ k ≤ L.length ∧ Keep None w9 W) (fun s _ => (L.length - s.1).toNat) ⟨0, rfl, Nat.zero_le _, k12⟩ ?_
  rintro ⟨k', ⟨⟩⟩ w15 ⟨k, rfl, hk, k15⟩
  simp only []
  refine pif_of (fun hlt => ?_) fun hge => ⟨rfl, k19.then0 k15⟩
  have hlt : k < L.length := by simpa using hlt
  rw [wrap_nat k (by omega)]
  obtain ⟨y, hy⟩ := getE hlt
  refine lp_of (fun s W => ∃ i : Nat, s.2.1 = (i : Int) ∧ i ≤ m ∧ (s.1 = true ↔ Mem os cs i y) ∧ Keep None w9 W) (fun s _ => (m - s.2.1).toNat) ⟨0, rfl, Nat.zero_le _, ⟨(fun h => by cases h), fun ⟨j, c, h, _⟩ => by omega⟩, k15⟩ ?_
  rintro ⟨f, i', ⟨⟩⟩ w16 ⟨i, rfl, hi, hf, k16⟩
  simp only [] at hf ⊢
  refine pif_of (fun hlt2 => ?_) fun hge2 => ?_
  · have hlt2 : i < m := by simpa using hlt2
    rw [wrap_nat i (by omega)]
    obtain ⟨c, hc⟩ := getE (show i < cs.length by omega)
    obtain ⟨c0, c1, _⟩ := hri i c hc
    obtain ⟨x, hx⟩ := getE (show c.toNat < os.length by omega)
    have ec : ((c.toNat : Nat) : Int) = c := by omega
    have kd : Keep None w9 w16.drew := k16.drew
    have kw := k19.then0 kd
    have hCd := hC.keep0 kw
    have hFd := hF.keep0 kw
    have hBd := hB9.keep0 kd
    refine ⟨fun s W => (s.1 = true ↔ Mem os cs (i + 1) y) ∧ Keep None w9 W, ?_, ?_⟩
    rotate_left
    · rintro ⟨g, ⟨⟩⟩ W ⟨hg, kg⟩
      exact ⟨⟨i + 1, rfl, hlt2, hg, kg⟩, by omega⟩
    refine ldC_of (hBd.cell 2) (hCd.ix hc fun a1 h1 => ldI_of h1 ?_)
    rw [← ec]
    refine hFd.ix hx fun a2 h2 => h2.ld ((hRL.keep0 kd).ix hy fun a3 h3 => h3.ld (eqT x y ?_))
    refine pif_of (fun h => ⟨?_, kd⟩) fun h => ⟨?_, kd⟩
    · have h : x = y := by simpa using h
      rw [mem_succ hc hx y]
      exact ⟨fun _ => Or.inr h.symm, fun _ => rfl⟩
    · have h : ¬ x = y := by simpa using h
      rw [mem_succ hc hx y]
      exact hf.trans ⟨fun h => Or.inl h, fun h' => h'.resolve_right fun e => h e.symm⟩
  · have hge2 : i = m := by simp at hge2; omega
    subst hge2
    have hft : f = true := hf.2 (by rw [← hcl]; exact (hmem y).1 (List.mem_of_getElem? hy))
    subst hft
    exact pif_f rfl ⟨⟨k + 1, rfl, hlt, k16⟩, by omega⟩
end
end Go.Proofs.Ytglhgmgegabinaa.Ex
