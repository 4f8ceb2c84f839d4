/- What makes a trail: the document's Formed. -/
import Derived.Test.YtlbpllpomdjooaaLearnA
set_option linter.unusedVariables false
set_option linter.unusedSimpArgs false
set_option maxRecDepth 100000
namespace Go.Proofs.Ytlbpllpomdjooaa.Learn
open Go Go.Proofs.Ytlbpllpomdjooaa.Vc Go.Proofs.Ytlbpllpomdjooaa.T
open Go.Proofs.Ytlbpllpomdjooaa.Apart (RdL own_rdl wrap_nat getE own_len copy same take_snoc Sl sv)

section
variable {w w' : World} {p : Option Addr} {n c : Nat} {es : List En}
theorem index65 {cs : List Int} (h : RdL w p n cs) (hn : n ≤ 1099511627776) (x : Int) : Calls Try.prog 65 #[.slice p n c, I x] w fun e w' => ∃ v, e = .returned (I v) ∧ (0 ≤ v ↔ x ∈ cs) ∧ Keep None w w' := by
  refine (V65_calls p n c x w (fun r w' => ∃ v, r = I v ∧ (0 ≤ v ↔ x ∈ cs) ∧ Keep None w w') ?_).mono fun e w' ⟨r, he, v, hr, hk⟩ => ⟨v, by rw [he, hr], hk⟩
  unfold V65
  have hl := h.len
  refine lp_of (fun s w1 => ∃ i : Nat, s.1 = (i : Int) ∧ i ≤ n ∧ x ∉ cs.take i ∧ Keep None w w1) (fun s _ => (n - s.1).toNat) ⟨0, rfl, Nat.zero_le _, by simp, Keep.refl _ _⟩ ?_
  rintro ⟨i', ⟨⟩⟩ w1 ⟨i, rfl, hi, hno, k1⟩
  simp only []
  refine pif_of (fun hlt => ?_) fun hge => ?_
  · have hlt : i < n := by simpa using hlt
    rw [wrap_nat i (by omega)]
    refine (h.keep0 k1).ix hlt fun a y hy ha => ldI_of ha (pif_of (fun he => ?_) fun he => ?_)
    · have he : x = y := by simpa using he
      subst he
      exact ⟨i, rfl, ⟨fun _ => List.mem_of_getElem? hy, fun _ => by omega⟩, k1⟩
    · have he : ¬ x = y := by simpa using he
      refine ⟨⟨i + 1, rfl, hlt, ?_, k1⟩, by omega⟩
      rw [take_snoc hy, List.mem_append, List.mem_singleton]
      rintro (hh | hh)
      · exact hno hh
      · exact he hh
  · have hge : i = n := by simp at hge; omega
    subst hge
    rw [← hl, List.take_length] at hno
    exact ⟨-1, rfl, ⟨fun h => by omega, fun h => absurd h hno⟩, k1⟩
theorem has60 {cs : List Int} (h : RdL w p n cs) (hn : n ≤ 1099511627776) (x : Int) : Calls Try.prog 60 #[.slice p n c, I x] w fun e w' => e = .returned (.bool (decide (x ∈ cs))) ∧ Keep None w w' := by
  refine ans_of (V60_calls p n c x w (Ans w _) ?_)
  unfold V60
  refine cl_of ok65 (index65 h hn x) fun e w1 ⟨v, he, hv, k1⟩ => ⟨v, he, ?_, k1⟩
  congr 1
  exact decide_eq_decide.2 hv
theorem has55 {cs : List Int} (h : RdL w p n cs) (hn : n ≤ 1099511627776) (x : Int) : Calls Try.prog 55 #[.slice p n c, I x] w fun e w' => e = .returned (.bool (fl x && decide (x ∈ cs))) ∧ Keep None w w' := by
  refine ans_of (V55_calls p n c x w (Ans w _) ?_)
  unfold V55
  refine cl_of ok33 (fl33 x) fun e w1 ⟨he, k1⟩ => ⟨_, he, ?_⟩
  cases hf : fl x with
  | true => exact gd_t rfl (cl_of ok60 (has60 (h.keep0 k1) hn x) fun e w2 ⟨he, k2⟩ => ⟨_, he, rfl, k1.then0 k2⟩)
  | false => exact gd_f rfl ⟨rfl, k1⟩
/-- where a literal became false -/
def Pl (es : List En) (l v : Int) : Prop := (v = -1 ∧ ∀ y ∈ es, y.lit ≠ neg l) ∨ ∃ (i : Nat) (x : En), v = (i : Int) ∧ es[i]? = some x ∧ x.lit = neg l ∧ ∀ y ∈ es.take i, y.lit ≠ neg l
theorem Pl.nonneg {es : List En} {l v : Int} (h : Pl es l v) : 0 ≤ v ↔ ∃ y ∈ es, y.lit = neg l := by
  rcases h with ⟨rfl, h⟩ | ⟨i, x, rfl, hx, hl, _⟩
  · exact ⟨fun h => by omega, fun ⟨y, hy, hl⟩ => absurd hl (h y hy)⟩
  · exact ⟨fun _ => ⟨x, List.mem_of_getElem? hx, hl⟩, fun _ => by omega⟩
theorem take_snocE {es : List En} {i : Nat} {x : En} (hx : es[i]? = some x) : es.take (i + 1) = es.take i ++ [x] := by
  rw [List.take_add_one, hx]; rfl
theorem place36 (h : RdE w p n es) (hn : n ≤ 1099511627776) (l : Int) : Calls Try.prog 36 #[.slice p n c, I l] w fun e w' => ∃ v, e = .returned (I v) ∧ Pl es l v ∧ Keep None w w' := by
  refine (V36_calls p n c l w (fun r w' => ∃ v, r = I v ∧ Pl es l v ∧ Keep None w w') ?_).mono fun e w' ⟨r, he, v, hr, hk⟩ => ⟨v, by rw [he, hr], hk⟩
  unfold V36
  have hl := h.len
  refine lp_of (fun s w1 => ∃ i : Nat, s.1 = (i : Int) ∧ i ≤ n ∧ (∀ y ∈ es.take i, y.lit ≠ neg l) ∧ Keep None w w1) (fun s _ => (n - s.1).toNat) ⟨0, rfl, Nat.zero_le _, by simp, Keep.refl _ _⟩ ?_
  rintro ⟨i', ⟨⟩⟩ w1 ⟨i, rfl, hi, hno, k1⟩
  simp only []
  refine pif_of (fun hlt => ?_) fun hge => ?_
  · have hlt : i < n := by simpa using hlt
    rw [wrap_nat i (by omega)]
    obtain ⟨x, hx⟩ := getE (show i < es.length by omega)
    refine (h.keep0 k1).ix hx fun a ⟨q, rn, rc, c0, _⟩ => ldI_of c0 (pif_of (fun he => ?_) fun he => ?_)
    · exact ⟨i, rfl, Or.inr ⟨i, x, rfl, hx, beq_iff_eq.1 he, hno⟩, k1⟩
    · have he : ¬ x.lit = neg l := beq_eq_false_iff_ne.1 he
      refine ⟨⟨i + 1, rfl, hlt, fun y hy => ?_, k1⟩, by omega⟩
      rw [take_snocE hx, List.mem_append, List.mem_singleton] at hy
      rcases hy with hy | rfl
      · exact hno y hy
      · exact he
  · have hge : i = n := by simp at hge; omega
    subst hge
    rw [← hl, List.take_length] at hno
    exact ⟨-1, rfl, Or.inl ⟨rfl, hno⟩, k1⟩
/-- the level behind some entries -/
def lastLev (es : List En) : Int := match es.getLast? with | some x => x.lev | none => 0
theorem lastLev_snoc {es : List En} {i : Nat} {x : En} (hx : es[i]? = some x) : lastLev (es.take (i + 1)) = x.lev := by
  rw [take_snocE hx]; unfold lastLev; simp
def Lev (pre : List En) (x : En) : Prop := (x.lev = lastLev pre ∨ x.lev = IntKind.wrap .i64 (lastLev pre + 1)) ∧ (x.lev = 0 ∨ (x.lev ≠ lastLev pre ↔ x.rs = []))
theorem leveled37 (h : RdE w p n es) (hn : n ≤ 1099511627776) {i : Nat} {x : En} (hx : es[i]? = some x) :
    Calls Try.prog 37 #[.slice p n c, I i] w fun e w' => ∃ b, e = .returned (.bool b) ∧ (b = true ↔ Lev (es.take i) x) ∧ Keep None w w' := by
  refine (V37_calls p n c i w (fun r w' => ∃ b, r = .bool b ∧ (b = true ↔ Lev (es.take i) x) ∧ Keep None w w') ?_).mono fun e w' ⟨r, he, v, hr, hk⟩ => ⟨v, by rw [he, hr], hk⟩
  unfold V37
  have hl := h.len
  have hi := (List.getElem?_eq_some_iff.1 hx).1
  refine ⟨fun s w1 => s.1 = lastLev (es.take i) ∧ w1 = w, ?_, ?_⟩
  · cases i with
    | zero => exact pif_f rfl ⟨rfl, rfl⟩
    | succ j =>
      have e1 : IntKind.wrap .i64 (((j + 1 : Nat) : Int) - 1) = (j : Int) := by rw [IntKind.wrap_i64]; omega
      obtain ⟨y, hy⟩ := getE (show j < es.length by omega)
      rw [e1]
      exact pif_t (by first | simp | (simp; omega)) (h.ix hy fun a ⟨q, rn, rc, _, c1, _⟩ => ldI_of c1 ⟨(lastLev_snoc hy).symm, rfl⟩)
  · rintro ⟨a0, ⟨⟩⟩ w1 ⟨e0, rfl⟩
    simp only [] at e0 ⊢
    rw [e0]
    unfold Lev
    generalize lastLev (es.take i) = a
    refine h.ix hx fun ad hA => ?_
    have hA0 := hA
    obtain ⟨q, rn, rc, _, c1, c2, hr⟩ := hA
    refine ldI_of c1 (pif_of (fun hno => ⟨false, rfl, ⟨(fun h => by cases h), fun h => ?_⟩, Keep.refl _ _⟩) fun hyes => pif_of (fun h0 => ⟨true, rfl, ⟨fun _ => ?_, fun _ => rfl⟩, Keep.refl _ _⟩) fun h0 => ?_)
    · have hno : ¬ x.lev = a ∧ ¬ x.lev = IntKind.wrap .i64 (a + 1) := by simpa using hno
      rcases h.1 with h | h
      · exact absurd h hno.1
      · exact absurd h hno.2
    · have h0 : x.lev = 0 := by simpa using h0
      refine ⟨?_, Or.inl h0⟩
      by_cases hh : x.lev = a
      · exact Or.inl hh
      · exact Or.inr (by simpa [hh] using hyes)
    · have h0 : ¬ x.lev = 0 := by simpa using h0
      have hor : x.lev = a ∨ x.lev = IntKind.wrap .i64 (a + 1) := by
        by_cases hh : x.lev = a
        · exact Or.inl hh
        · exact Or.inr (by simpa [hh] using hyes)
      refine h.ix hx fun ad hA => ?_
      obtain ⟨q, rn, rc, _, c1, c2, hr⟩ := hA
      refine ldC_of c2 ⟨_, rfl, ?_, Keep.refl _ _⟩
      have hrl : x.rs = [] ↔ (rn : Int) = 0 := by
        rw [← List.length_eq_zero_iff, hr.len]; omega
      have hb : ((x.lev != a) == ((rn : Int) == 0)) = true ↔ (x.lev ≠ a ↔ (rn : Int) = 0) := by rw [beq_iff_eq, Bool.eq_iff_iff, bne_iff_ne, beq_iff_eq]
      rw [hrl, hb]
      exact ⟨fun h => ⟨hor, Or.inr h⟩, fun h => h.2.resolve_left h0⟩
def Rsn (pre : List En) (x : En) : Prop := x.rs.all fl = true ∧ x.lit ∈ x.rs ∧ ∀ l ∈ x.rs, l ≠ x.lit → ∃ y ∈ pre, y.lit = neg l
theorem slE {p : Option Addr} {c : Nat} (h : c ≠ 0) : slA p c 0 3 = p := by
  unfold slA
  cases p with
  | none => simp
  | some a =>
    simp only [Nat.sub_zero, if_neg h, Option.map_some, Nat.zero_mul]
    unfold Addr.add
    simp
theorem reasoned38 (h : RdE w p n es) (hn : n ≤ 1099511627776) (hc : n ≤ c) (hr : ∀ x ∈ es, x.rs.length ≤ 1099511627776) {i : Nat} {x : En} (hx : es[i]? = some x) :
    Calls Try.prog 38 #[.slice p n c, I i] w fun e w' => ∃ b, e = .returned (.bool b) ∧ (b = true ↔ Rsn (es.take i) x) ∧ Keep None w w' := by
  refine (V38_calls p n c i w (fun r w' => ∃ b, r = .bool b ∧ (b = true ↔ Rsn (es.take i) x) ∧ Keep None w w') ?_).mono fun e w' ⟨r, he, v, hr, hk⟩ => ⟨v, by rw [he, hr], hk⟩
  unfold V38
  have hl := h.len
  have hi := (List.getElem?_eq_some_iff.1 hx).1
  have hrx := hr x (List.mem_of_getElem? hx)
  refine h.ix hx fun a0 ⟨q, rn, rc, _, _, c2, hq⟩ => ldC_of c2 ?_
  have hql := hq.len
  refine cl_of ok41 (sound41 hq (by omega)) fun e w1 ⟨he, k1⟩ => ⟨_, he, ?_⟩
  cases hs : x.rs.all fl with
  | false => exact gd_f rfl (gd_f rfl (gd_f rfl (pif_t rfl ⟨false, rfl, ⟨(fun h => by cases h), fun h => by have := h.1; rw [hs] at this; cases this⟩, k1⟩)))
  | true =>
    refine gd_t rfl ((h.keep0 k1).ix hx fun a1 ⟨_, _, _, c0, _⟩ => gd_t rfl (ldI_of c0 (gd_t rfl (cl_of ok42 (has42 (hq.keep0 k1) (by omega) x.lit) fun e w2 ⟨he, k2⟩ => ⟨_, he, ?_⟩))))
    have k02 := k1.then0 k2
    by_cases hm : x.lit ∈ x.rs
    · rw [decide_eq_true hm]
      refine pif_f rfl ?_
      refine lp_of (fun s w' => ∃ j : Nat, s.1 = (j : Int) ∧ j ≤ rn ∧ (∀ l ∈ x.rs.take j, l ≠ x.lit → ∃ y ∈ es.take i, y.lit = neg l) ∧ Keep None w w') (fun s _ => (rn - s.1).toNat) ⟨0, rfl, Nat.zero_le _, by simp, k02⟩ ?_
      rintro ⟨j', ⟨⟩⟩ w3 ⟨j, rfl, hj, hall, k3⟩
      simp only []
      refine pif_of (fun hlt => ?_) fun hge => ?_
      · have hlt : j < rn := by simpa using hlt
        rw [wrap_nat j (by omega)]
        have kd : Keep None w w3.drew := k3.drew
        have hd := h.keep0 kd
        refine (hq.keep0 kd).ix hlt fun b l hl1 hb => ldI_of hb (hd.ix hx fun a1 ⟨_, _, _, c0, _⟩ => ldI_of c0 ?_)
        by_cases hne : l = x.lit
        · have e0 : (l != x.lit) = false := by simp [hne]
          refine gd_f e0 (gd_f e0 (gd_f e0 (gd_f e0 (pif_f (by rw [e0]; rfl) ⟨⟨j + 1, rfl, hlt, fun l' hl' hne' => ?_, kd⟩, by omega⟩))))
          rw [take_snoc hl1, List.mem_append, List.mem_singleton] at hl'
          rcases hl' with hl' | rfl
          · exact hall l' hl' hne'
          · exact absurd hne hne'
        · have e0 : (l != x.lit) = true := by simpa using hne
          refine gd_t e0 ⟨by omega, by omega, gd_t e0 ((hq.keep0 kd).ix hlt fun b2 l2 hl2 hb2 => gd_t e0 (ldI_of hb2 (gd_t e0 ?_)))⟩
          rw [hl1] at hl2
          injection hl2 with hl2
          subst hl2
          rw [slE (by omega)]
          have ht := hd.take (m := i) (by omega)
          simp only [Int.toNat_natCast, Nat.sub_zero]
          refine cl_of ok36 (place36 ht (by omega) l) fun e w4 ⟨v, he, hv, k4⟩ => ⟨v, he, ?_⟩
          have hv := hv.nonneg
          refine pif_of (fun hlt' => ⟨false, rfl, ⟨(fun h => by cases h), fun h => ?_⟩, kd.then0 k4⟩) fun hge' => ⟨⟨j + 1, rfl, hlt, fun l' hl' hne' => ?_, kd.then0 k4⟩, by omega⟩
          · have hlt' : v < 0 := by simpa [e0] using hlt'
            have := hv.2 (h.2.2 l (List.mem_of_getElem? hl1) hne)
            omega
          · have hv0' : 0 ≤ v := by simpa [e0] using hge'
            rw [take_snoc hl1, List.mem_append, List.mem_singleton] at hl'
            rcases hl' with hl' | rfl
            · exact hall l' hl' hne'
            · exact hv.1 hv0'
      · have hge : j = rn := by simp at hge; omega
        subst hge
        rw [← hql, List.take_length] at hall
        exact ⟨true, rfl, ⟨fun _ => ⟨hs, hm, hall⟩, fun _ => rfl⟩, k3⟩
    · rw [decide_eq_false hm]
      exact pif_t rfl ⟨false, rfl, ⟨(fun h => by cases h), fun h => absurd h.2.1 hm⟩, k02⟩
/-- an entry behind others -/
def Good (pre : List En) (x : En) : Prop := fl x.lit = true ∧ (∀ y ∈ pre, y.lit ≠ x.lit ∧ y.lit ≠ neg x.lit) ∧ Lev pre x ∧ (x.rs ≠ [] → Rsn pre x)
def Fm (es : List En) : Prop := ∀ (i : Nat) (x : En), es[i]? = some x → Good (es.take i) x
theorem fm_no {es : List En} {i : Nat} {x : En} (hx : es[i]? = some x) (h : ¬ Good (es.take i) x) : ¬ Fm es := fun hf => h (hf i x hx)
theorem neg_neg {l : Int} (h : fl l = true) : neg (neg l) = l := by
  have := fl_iff.1 h
  unfold neg
  rw [IntKind.wrap_i64, IntKind.wrap_i64]; omega
theorem formed12 (h : RdE w p n es) (hn : n ≤ 1099511627776) (hc : n ≤ c) (hr : ∀ x ∈ es, x.rs.length ≤ 1099511627776) :
    Calls Try.prog 12 #[.slice p n c] w fun e w' => ∃ b, e = .returned (.bool b) ∧ (b = true ↔ Fm es) ∧ Keep None w w' := by
  refine (V12_calls p n c w (fun r w' => ∃ b, r = .bool b ∧ (b = true ↔ Fm es) ∧ Keep None w w') ?_).mono fun e w' ⟨r, he, v, hr, hk⟩ => ⟨v, by rw [he, hr], hk⟩
  unfold V12
  have hl := h.len
  refine lp_of (fun s w' => ∃ i : Nat, s.1 = (i : Int) ∧ i ≤ n ∧ (∀ j x, j < i → es[j]? = some x → Good (es.take j) x) ∧ Keep None w w') (fun s _ => (n - s.1).toNat) ⟨0, rfl, Nat.zero_le _, (fun j x hj => by omega), Keep.refl _ _⟩ ?_
  rintro ⟨i', ⟨⟩⟩ w1 ⟨i, rfl, hi, hall, k1⟩
  simp only []
  refine pif_of (fun hlt => ?_) fun hge => ?_
  · have hlt : i < n := by simpa using hlt
    rw [wrap_nat i (by omega)]
    obtain ⟨x, hx⟩ := getE (show i < es.length by omega)
    have h1 := h.keep0 k1
    have no : ∀ {w' : World}, Keep None w w' → ¬ Good (es.take i) x → ∃ b, (.bool false : Value) = .bool b ∧ (b = true ↔ Fm es) ∧ Keep None w w' := fun k hg => ⟨false, rfl, ⟨(fun h => by cases h), fun h => absurd (h i x hx) hg⟩, k⟩
    refine h1.ix hx fun a ⟨_, _, _, c0, _⟩ => ldI_of c0 (cl_of ok35 (fl35 x.lit) fun e w2 ⟨he, k2⟩ => ⟨_, he, ?_⟩)
    have k02 := k1.then0 k2
    cases hf : fl x.lit with
    | false => exact gd_f rfl (gd_f rfl (gd_f rfl (gd_f rfl (gd_f rfl (pif_t rfl (no k02 fun h => by have := h.1; rw [hf] at this; cases this))))))
    | true =>
      refine gd_t rfl ⟨by omega, by omega, gd_t rfl ?_⟩
      rw [slE (by omega)]
      simp only [Int.toNat_natCast, Nat.sub_zero]
      have h2 := h.keep0 k02
      refine cl_of ok36 (place36 (h2.take (m := i) (by omega)) (by omega) x.lit) fun e w3 ⟨v, he, hv, k3⟩ => ⟨v, he, ?_⟩
      have k03 := k02.then0 k3
      have hv := hv.nonneg
      by_cases hv0 : 0 ≤ v
      · have e0 : decide (v ≥ 0) = true := decide_eq_true hv0
        rw [e0]
        refine gd_f rfl (gd_f rfl (gd_f rfl (pif_t rfl (no k03 fun h => ?_))))
        obtain ⟨y, hy, hyl⟩ := hv.1 hv0
        exact (h.2.1 y hy).2 hyl
      have e0 : decide (v ≥ 0) = false := decide_eq_false hv0
      rw [e0]
      refine gd_t rfl ⟨by omega, by omega, gd_t rfl ?_⟩
      refine cl_of ok36 (place36 ((h.keep0 k03).take (m := i) (by omega)) (by omega) (neg x.lit)) fun e w4 ⟨u, he, hu, k4⟩ => ⟨u, he, ?_⟩
      have k04 := k03.then0 k4
      show gd (!(cond (cond (!true) true false) true (decide (u ≥ 0)))) _ _ _ _
      have hu := hu.nonneg
      rw [neg_neg hf] at hu
      by_cases hu0 : 0 ≤ u
      · have e0 : decide (u ≥ 0) = true := decide_eq_true hu0
        rw [e0]
        refine gd_f rfl (pif_t rfl (no k04 fun h => ?_))
        obtain ⟨y, hy, hyl⟩ := hu.1 hu0
        exact (h.2.1 y hy).1 hyl
      have e0 : decide (u ≥ 0) = false := decide_eq_false hu0
      rw [e0]
      refine gd_t rfl (cl_of ok37 (leveled37 (h.keep0 k04) hn hx) fun e w5 ⟨b, he, hb, k5⟩ => ⟨b, he, ?_⟩)
      have k05 := k04.then0 k5
      cases b with
      | false => exact pif_t rfl (no k05 fun h => by have := hb.2 h.2.2.1; cases this)
      | true =>
        have hdist : ∀ y ∈ es.take i, y.lit ≠ x.lit ∧ y.lit ≠ neg x.lit := fun y hy => ⟨fun e => hu0 (hu.2 ⟨y, hy, e⟩), fun e => hv0 (hv.2 ⟨y, hy, e⟩)⟩
        have hlev := hb.1 rfl
        refine pif_f rfl ((h.keep0 k05).ix hx fun a ⟨q, rn, rc, _, _, c2, hq⟩ => ldC_of c2 ?_)
        have hql := hq.len
        have good : (x.rs ≠ [] → Rsn (es.take i) x) → ∀ j y, j < i + 1 → es[j]? = some y → Good (es.take j) y := fun hh j y hj hy => by
          by_cases hji : j = i
          · subst hji
            rw [hx] at hy
            injection hy with hy
            subst hy
            exact ⟨hf, hdist, hlev, hh⟩
          · exact hall j y (by omega) hy
        by_cases hr0 : 0 < rn
        · have e0 : decide ((rn : Int) > 0) = true := decide_eq_true (by omega)
          rw [e0]
          refine gd_t rfl (cl_of ok38 (reasoned38 (h.keep0 k05) hn hc hr hx) fun e w6 ⟨b, he, hb, k6⟩ => ⟨b, he, ?_⟩)
          have k06 := k05.then0 k6
          have hne : x.rs ≠ [] := fun e => by rw [e] at hql; simp at hql; omega
          cases b with
          | false => exact pif_t rfl (no k06 fun h => by have := hb.2 (h.2.2.2 hne); cases this)
          | true => exact pif_f rfl ⟨⟨i + 1, rfl, hlt, good fun _ => hb.1 rfl, k06⟩, by omega⟩
        · have e0 : decide ((rn : Int) > 0) = false := decide_eq_false (by omega)
          rw [e0]
          have hnil : x.rs = [] := List.eq_nil_of_length_eq_zero (by omega)
          exact gd_f rfl (pif_f rfl ⟨⟨i + 1, rfl, hlt, good fun hne => absurd hnil hne, k05⟩, by omega⟩)
  · have hge : i = n := by simp at hge; omega
    subst hge
    exact ⟨true, rfl, ⟨fun _ i x hx => hall i x (by have := (List.getElem?_eq_some_iff.1 hx).1; omega) hx, fun _ => rfl⟩, k1⟩
end
end Go.Proofs.Ytlbpllpomdjooaa.Learn
