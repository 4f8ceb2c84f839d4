/- LearnAsserts: its walk. -/
import Derived.Test.YtlbpllpomdjooaaLearnN
set_option linter.unusedVariables false
set_option linter.unusedSimpArgs false
set_option maxRecDepth 100000
namespace Go.Proofs.Ytlbpllpomdjooaa.Learn
open Go Go.Proofs.Ytlbpllpomdjooaa.Vc Go.Proofs.Ytlbpllpomdjooaa.T
open Go.Proofs.Ytlbpllpomdjooaa.Apart (RdL own_rdl wrap_nat getE own_len copy same take_snoc Sl sv Gro)
open Go.Proofs.Ytlbpllpomdjooaa.Lits (Td Srt)

theorem Lrn.fin {es : List En} {top : Int} {S F : Int → Prop} {o : Int} (hF : Fm es) (hn : es.length ≤ 1048576) (h : Lrn es top S o F) :
    (∀ l, S l → (fl l = true ∧ ∃ y ∈ es, y.lit = neg l) ∧ lvl es l ≤ top) → (∀ l, F l → (fl l = true ∧ ∃ y ∈ es, y.lit = neg l) ∧ lvl es l ≤ top) ∧ F o ∧ lvl es o = top ∧ ∀ l, F l → lvl es l = top → l = o := by
  induction h with
  | done h ha => exact fun hS => ⟨hS, h.mem, by rw [lvl_of hF h.at' (neg_neg (hF _ _ h.at').1).symm]; exact h.lev, ha⟩
  | @step S F i x o h ha hn ih =>
    intro hS
    refine ih fun l hl => ?_
    rcases hl with ⟨hl, _⟩ | ⟨hl, hne⟩
    · exact hS l hl
    · refine ⟨rs_ok hF x (List.mem_of_getElem? h.at') l hl hne, ?_⟩
      obtain ⟨k, y, hk, hy, hyl⟩ := rs_ahead hF h.at' hl hne
      rw [lvl_of hF hy hyl, ← h.lev]
      exact (lev_run hF (by assumption) i x h.at').2.2 k y (by omega) hy
section
variable {w w' : World} {p q : Option Addr} {n m c d : Nat} {es : List En} {cs : List Int}
theorem where24 (hF : Fm es) (h : RdE w p n es) (hn : n ≤ 1048576) {l : Int} (hm : ∃ y ∈ es, y.lit = neg l) :
    Calls Try.prog 24 #[.slice p n c, I l] w fun e w' => ∃ k, e = .returned (.tuple #[I (lvl es l), I k]) ∧ Keep None w w' := by
  refine (V24_calls p n c l w (fun v w' => ∃ k, v = .tuple #[I (lvl es l), I k] ∧ Keep None w w') ?_).mono fun e w' ⟨v, he, k, hv, hk⟩ => ⟨k, by rw [he, hv], hk⟩
  unfold V24
  have hl := h.len
  refine lp_of (fun s W => ∃ i : Nat, s.1 = (i : Int) ∧ i ≤ n ∧ (∀ y ∈ es.take i, y.lit ≠ neg l) ∧ Keep None w W) (fun s _ => (n - s.1).toNat) ⟨0, rfl, Nat.zero_le _, by simp, Keep.refl _ _⟩ ?_
  rintro ⟨i', ⟨⟩⟩ W ⟨i, rfl, hi, hno, kW⟩
  simp only []
  refine pif_of (fun hlt => ?_) fun hge => ?_
  · have hlt : i < n := by simpa using hlt
    rw [wrap_nat i (by omega)]
    obtain ⟨x, hx⟩ := getE (show i < es.length by omega)
    refine (h.keep0 kW).ix hx fun a ⟨q, rn, rc, c0, _⟩ => ldI_of c0 (pif_of (fun he => ?_) fun he => ?_)
    · have he : x.lit = neg l := beq_iff_eq.1 he
      refine (h.keep0 kW).ix hx fun a ⟨_, _, _, _, c1, _⟩ => ldI_of c1 ⟨i, ?_, kW⟩
      rw [lvl_of hF hx he]
    · have he : ¬ x.lit = neg l := beq_eq_false_iff_ne.1 he
      refine ⟨⟨i + 1, rfl, hlt, fun y hy => ?_, kW⟩, by omega⟩
      rw [take_snocE hx, List.mem_append, List.mem_singleton] at hy
      rcases hy with hy | rfl
      · exact hno y hy
      · exact he
  · have hge : i = n := by simp at hge; omega
    subst hge
    rw [← hl, List.take_length] at hno
    obtain ⟨y, hy, e⟩ := hm
    exact absurd e (hno y hy)
theorem shaped22 (hC : RdL w q m cs) (hm : m ≤ 1099511627776) : Calls Try.prog 22 #[.slice q m d] w fun e w' => e = .returned (.bool (cs.all fl)) ∧ Keep None w w' := by
  refine ans_of (V22_calls q m d w (Ans w _) ?_)
  unfold V22
  have hl := hC.len
  refine lp_of (fun s W => ∃ i : Nat, s.1 = (i : Int) ∧ i ≤ m ∧ (cs.take i).all fl = true ∧ Keep None w W) (fun s _ => (m - s.1).toNat) ⟨0, rfl, Nat.zero_le _, rfl, Keep.refl _ _⟩ ?_
  rintro ⟨i', ⟨⟩⟩ W ⟨i, rfl, hi, hall, kW⟩
  simp only []
  refine pif_of (fun hlt => ?_) fun hge => ?_
  · have hlt : i < m := by simpa using hlt
    rw [wrap_nat i (by omega)]
    have hR := hC.keep0 kW
    have bad : ∀ x : Int, cs[i]? = some x → fl x = false → Ans w (.bool (cs.all fl)) (.bool false) W := fun x hx hf => ⟨by rw [all_no (List.mem_of_getElem? hx) hf], kW⟩
    refine hR.ix hlt fun a x hx ha => ldI_of ha ?_
    have fx := @fl_iff x
    by_cases h0 : x = 0
    · have hf : fl x = false := by rw [← Bool.not_eq_true, fx]; exact fun h => h.1 h0
      have e0 : (x == 0) = true := by simpa using h0
      rw [e0]
      refine gd_f rfl (gd_f rfl ?_)
      exact gd_f rfl (gd_f rfl (pif_t rfl (bad x hx hf)))
    have e0 : (x == 0) = false := by simpa using h0
    rw [e0]
    refine gd_t rfl (hR.ix hlt fun a y hy ha => gd_t rfl (ldI_of ha ?_))
    rw [hx] at hy; injection hy with hy; subst hy
    by_cases h1 : x > 1048576
    · have hf : fl x = false := by rw [← Bool.not_eq_true, fx]; omega
      have e1 : decide (x > 1048576) = true := decide_eq_true h1
      rw [e1]
      exact gd_f rfl (gd_f rfl (pif_t rfl (bad x hx hf)))
    have e1 : decide (x > 1048576) = false := decide_eq_false h1
    rw [e1]
    refine gd_t rfl (hR.ix hlt fun a y hy ha => gd_t rfl (ldI_of ha ?_))
    rw [hx] at hy; injection hy with hy; subst hy
    by_cases h2 : x < -1048576
    · have hf : fl x = false := by rw [← Bool.not_eq_true, fx]; omega
      exact pif_t (by rw [decide_eq_true h2]; rfl) (bad x hx hf)
    · have hf : fl x = true := fx.2 (by omega)
      refine pif_f (by rw [decide_eq_false h2]; rfl) ⟨⟨i + 1, rfl, hlt, by rw [all_snoc hx, hall, hf]; rfl, kW⟩, by omega⟩
  · have hge : i = m := by simp at hge; omega
    subst hge
    rw [← hl, List.take_length] at hall
    exact ⟨by rw [hall], kW⟩
theorem index25 {l : Int} (hf : fl l = true) : Calls Try.prog 25 #[I l] w fun e w' => e = .returned (I (Lits.idx l)) ∧ w' = w := by
  refine (V25_calls l w (fun v w' => v = I (Lits.idx l) ∧ w' = w) ?_).mono fun e w' ⟨v, he, hv, hk⟩ => ⟨by rw [he, hv], hk⟩
  unfold V25
  have hb := fl_iff.1 hf
  refine pif_of (fun hl => ⟨?_, rfl⟩) fun hl => ⟨?_, rfl⟩
  · have hl : l < 0 := by simpa using hl
    unfold Lits.idx; rw [if_pos hl]; congr 1; simp only [IntKind.wrap_i64]; omega
  · have hl : ¬ l < 0 := by simpa using hl
    unfold Lits.idx; rw [if_neg hl]; congr 1; simp only [IntKind.wrap_i64]; omega
theorem law8 (hE : RdE w p n es) (hn : n ≤ 1048576) (hc : n ≤ c) (hr : ∀ x ∈ es, x.rs.length ≤ 1048576) (hC : RdL w q m cs) (hm : m ≤ 1048576) :
    Calls Try.prog 8 #[.slice p n c, .slice q m d] w fun e w' => e = .returned (.bool true) ∧ RowKit.Below w.heap.size w w' := by
  refine (ans_of (V8_calls p n c q m d w (Ans w _) ?_)).mono fun e w' ⟨he, hk⟩ => ⟨he, hk.below0⟩
  unfold V8
  have hcl := hC.len
  have hel := hE.len
  refine cl_of ok19 (awake19 w) fun e w1 ⟨he, k1⟩ => ⟨_, he, pif_f rfl ?_⟩
  refine cl_of ok12 (formed12 (hE.keep0 k1) (by omega) hc (fun x hx => by have := hr x hx; omega)) fun e w2 ⟨b, he, hb, k2⟩ => ⟨b, he, ?_⟩
  have k02 := k1.then0 k2
  cases b with
  | false => exact gd_f rfl (gd_f rfl (pif_t rfl ⟨rfl, k02⟩))
  | true =>
  have hF := hb.1 rfl
  refine gd_t rfl (cl_of ok22 (shaped22 (hC.keep0 k02) (by omega)) fun e w3 ⟨he, k3⟩ => ⟨_, he, ?_⟩)
  have k03 := k02.then0 k3
  cases hall : cs.all fl with
  | false => exact gd_f rfl (pif_t rfl ⟨by first | rfl | trivial, k03⟩)
  | true =>
  refine gd_t rfl (cl_of ok23 (false23 (hE.keep0 k03) hn (hC.keep0 k03) hm) fun e w4 ⟨b, he, hb, k4⟩ => ⟨b, he, ?_⟩)
  have k04 := k03.then0 k4
  cases b with
  | false => exact pif_t rfl ⟨by first | rfl | trivial, k04⟩
  | true =>
  have hFals := hb.1 rfl
  refine pif_f rfl ?_
  have hrun := lev_run hF (by omega)
  have hok : ∀ l ∈ cs, fl l = true ∧ ∃ y ∈ es, y.lit = neg l := fun l hl => ⟨List.all_eq_true.1 hall l hl, hFals l hl⟩
  have lv0 : ∀ l, (∃ y ∈ es, y.lit = neg l) → 0 ≤ lvl es l := fun l ⟨y, hy, e⟩ => by
    obtain ⟨i, hi⟩ := List.mem_iff_getElem?.1 hy
    rw [lvl_of hF hi e]; exact (hrun i y hi).1
  refine lp_of (fun s W => ∃ i : Nat, s.2.1 = (i : Int) ∧ i ≤ m ∧ Mx es (· ∈ cs.take i) s.1 ∧ Keep None w W) (fun s _ => (m - s.2.1).toNat)
    ⟨0, rfl, Nat.zero_le _, Mx.nil (fun l (h : l ∈ cs.take 0) => by cases h), k04⟩ ?_
  rintro ⟨top, i', ⟨⟩⟩ W ⟨i, rfl, hi, hMx, kW⟩
  simp only [] at hMx ⊢
  refine pif_of (fun hlt => ?_) fun hge => ?_
  · have hlt : i < m := by simpa using hlt
    refine jn_of ?_
    rw [wrap_nat i (by omega)]
    refine (hC.keep0 kW).ix hlt fun a l hl ha => ldI_of ha ?_
    have hlo := hok l (List.mem_of_getElem? hl)
    refine cl_of ok24 (where24 hF (hE.keep0 kW) hn hlo.2) fun e W1 ⟨k, he, k1'⟩ => ⟨_, _, he, ?_⟩
    have hMx' := hMx.add (M' := (· ∈ cs.take (i + 1))) (fun x => by rw [take_snoc hl, List.mem_append, List.mem_singleton]) (lv0 l hlo.2)
    refine pif_of (fun hg => ?_) fun hg => ?_
    · have hg : lvl es l > top := by simpa using hg
      rw [if_pos hg] at hMx'
      exact ⟨⟨i + 1, rfl, hlt, hMx', kW.then0 k1'⟩, by omega⟩
    · have hg : ¬ lvl es l > top := by simpa using hg
      rw [if_neg hg] at hMx'
      exact ⟨⟨i + 1, rfl, hlt, hMx', kW.then0 k1'⟩, by omega⟩
  have hge : i = m := by simp at hge; omega
  subst hge
  rw [← hcl, List.take_length] at hMx
  refine cl_of ok11 (copyE (hE.keep0 kW) (by omega) (fun x hx => by have := hr x hx; omega)) fun e w5 ⟨s, sd, xs, he, hCe, hxs⟩ => ⟨_, _, _, he, ?_⟩
  have hE1 := hCe.rde
  rw [hxs] at hE1
  have k5 := hCe.keep
  have k05 := kW.then0 k5
  refine cl_of ok14 (copy (hC.keep0 k05) (by omega)) fun e w6 ⟨v, he, t, td, hv, hO, hnew, k6⟩ => ⟨_, _, _, he.trans (congrArg Ending.returned hv), ?_⟩
  have k06 := k05.then0 k6
  refine cl_of ok20 (learn20 (hE1.keep0 k6) hn hr (own_rdl hO) (by omega)) fun e w7 ⟨v, he, u, b, g, gn, gc, cl, hv, hS, hOg, hng, k7⟩ => ⟨_, _, _, _, _, he.trans (congrArg Ending.returned hv), ?_⟩
  have k07 := k06.then0 k7
  have hcll := hS.len
  have hgl := own_len hOg
  obtain ⟨hA, hS⟩ := hS
  obtain rfl := hA.unique (Or.inr (Or.inr ⟨rfl, hFals, hF, hall⟩))
  rcases hS with ⟨h, _⟩ | ⟨_, top', hM', hS⟩
  · exact absurd rfl h
  obtain rfl := hM'.uniq hMx fun l => Iff.rfl
  rcases hS with ⟨rfl, rfl, rfl⟩ | ⟨htop, o, F, L, hLrn, hT, rfl, hMb⟩
  · refine pif_t rfl ⟨?_, k07⟩
    have : gn = 0 := by simpa using hgl.symm
    rw [this]; rfl
  refine pif_f (by simp; omega) ?_
  obtain ⟨hFo, hFF, hot, hal⟩ := hLrn.fin hF (by omega) fun l hl => ⟨hok l hl, hMx.1 l hl⟩
  have hLf : ∀ l ∈ L, (fl l = true ∧ ∃ y ∈ es, y.lit = neg l) ∧ 0 < lvl es l ∧ lvl es l < top' := fun l hl => by
    obtain ⟨⟨h1, h2, h3⟩, _⟩ := (hT.mem l).1 hl
    obtain ⟨h4, h5⟩ := hFo l h1
    refine ⟨h4, h3, ?_⟩
    have : lvl es l ≠ top' := fun e => h2 (hal l h1 e)
    omega
  have hbk : 0 ≤ b ∧ b < top' := by
    refine ⟨hMb.2.1, ?_⟩
    rcases hMb.2.2 with h | ⟨l, hl, e⟩
    · omega
    · have := (hLf l hl).2.2; omega
  simp only [List.length_cons] at hgl hcll
  refine pif_f ?_ ?_
  · have e1 : ((gn : Int) == 0) = false := by simp; omega
    rw [e1, decide_eq_false (show ¬ b < 0 by omega), decide_eq_false (show ¬ b ≥ top' by omega)]; rfl
  have hRg := own_rdl hOg
  refine lp_of (fun s Y => ∃ (j : Nat), s.2.1 = (j : Int) ∧ j ≤ gn ∧ Mx es (· ∈ L.take (j - 1)) s.1 ∧ Keep None w7 Y) (fun s _ => (gn - s.2.1).toNat)
    ⟨0, rfl, Nat.zero_le _, Mx.nil (fun l (h : l ∈ L.take (0 - 1)) => by cases h), Keep.refl _ _⟩ ?_
  rintro ⟨most, j', ⟨⟩⟩ Y ⟨j, rfl, hj, hMm, kY⟩
  simp only [] at hMm ⊢
  refine pif_of (fun hlt => ?_) fun hge => ?_
  · have hlt : j < gn := by simpa using hlt
    refine jn_of ?_
    rw [wrap_nat j (by omega)]
    refine (hRg.keep0 kY).ix hlt fun a l hl ha => ldI_of ha ?_
    have kwY := k07.then0 kY
    cases j with
    | zero =>
      simp at hl; subst hl
      refine cl_of ok24 (where24 hF (hE.keep0 kwY) hn (hFo o hFF).1.2) fun e Y1 ⟨k, he, k1'⟩ => ⟨_, _, he, ?_⟩
      rw [hot]
      have kd := k1'.drew
      have e1 : decide (top' < 1) = false := decide_eq_false (by omega)
      have e2 : (top' == top') = true := by simp
      have e3 : ((((0 : Nat) : Int)) == 0) = true := rfl
      have e4 : decide (((0 : Nat) : Int) > 1) = false := rfl
      rw [e1, e2, e3, e4]
      refine gd_f rfl (gd_f rfl (gd_f rfl (gd_f rfl (gd_f rfl ⟨(fun h => by cases h), gd_f rfl (pif_f rfl (pif_f rfl ?_))⟩))))
      exact ⟨⟨0 + 1, rfl, hlt, hMm, kY.then0 kd⟩, by omega⟩
    | succ j =>
      have hl' : L[j]? = some l := by simpa using hl
      have hlm := List.mem_of_getElem? hl'
      obtain ⟨⟨hlf, hle⟩, hl0, hlt'⟩ := hLf l hlm
      refine cl_of ok24 (where24 hF (hE.keep0 kwY) hn hle) fun e Y1 ⟨k, he, k1'⟩ => ⟨_, _, he, ?_⟩
      have kY1 := kY.then0 k1'.drew
      have e1 : decide (lvl es l < 1) = false := decide_eq_false (by omega)
      have e2 : (lvl es l == top') = false := by simp; omega
      have e3 : ((((j + 1 : Nat) : Int)) == 0) = false := by simp; omega
      rw [e1, e2, e3]
      have hMm' := hMm.add (M' := (· ∈ L.take (j + 1 + 1 - 1))) (fun x => by rw [show j + 1 + 1 - 1 = j + 1 by omega, take_snoc hl', List.mem_append, List.mem_singleton]; rfl) (l := l) (by omega)
      have fin : ∀ {Z : World}, Keep None w7 Z → pif (cond (decide (((j + 1 : Nat) : Int) > 0)) (decide (lvl es l > most)) false)
          ((∃ (j' : Nat), ((j + 1 + 1 : Nat) : Int) = (j' : Int) ∧ j' ≤ gn ∧ Mx es (· ∈ L.take (j' - 1)) (lvl es l) ∧ Keep None w7 Z) ∧ ((gn : Int) - ((j + 1 + 1 : Nat) : Int)).toNat < ((gn : Int) - ((j + 1 : Nat) : Int)).toNat)
          ((∃ (j' : Nat), ((j + 1 + 1 : Nat) : Int) = (j' : Int) ∧ j' ≤ gn ∧ Mx es (· ∈ L.take (j' - 1)) most ∧ Keep None w7 Z) ∧ ((gn : Int) - ((j + 1 + 1 : Nat) : Int)).toNat < ((gn : Int) - ((j + 1 : Nat) : Int)).toNat) := fun kZ => by
        rw [decide_eq_true (show ((j + 1 : Nat) : Int) > 0 by omega)]
        refine pif_of (fun hg => ?_) fun hg => ?_
        · have hg : lvl es l > most := by simpa using hg
          rw [if_pos hg] at hMm'
          exact ⟨⟨j + 1 + 1, rfl, hlt, hMm', kZ⟩, by omega⟩
        · have hg : ¬ lvl es l > most := by simpa using hg
          rw [if_neg hg] at hMm'
          exact ⟨⟨j + 1 + 1, rfl, hlt, hMm', kZ⟩, by omega⟩
      cases j with
      | zero =>
        have e4 : decide (((0 + 1 : Nat) : Int) > 1) = false := rfl
        rw [e4]
        refine gd_f rfl (gd_f rfl (gd_f rfl (gd_f rfl (gd_f rfl ⟨(fun h => by cases h), gd_f rfl (pif_f rfl ?_)⟩))))
        exact fin kY1
      | succ j =>
        have e4 : decide (((j + 1 + 1 : Nat) : Int) > 1) = true := decide_eq_true (by omega)
        rw [e4]
        obtain ⟨z, hz⟩ := getE (show j < L.length by omega)
        have hzl := hLf z (List.mem_of_getElem? hz)
        have hzg : (o :: L)[j + 1]? = some z := by simpa using hz
        have ew : IntKind.wrap .i64 (((j + 1 + 1 : Nat) : Int) - 1) = ((j + 1 : Nat) : Int) := by rw [IntKind.wrap_i64]; omega
        have hR1 := hRg.keep0 kY1
        refine gd_t rfl (hR1.ix hlt fun a y hy ha => gd_t rfl (ldI_of ha ?_))
        rw [hl] at hy; injection hy with hy; subst hy
        rw [ew]
        refine gd_t rfl (hR1.ix (by omega) fun a2 y hy ha2 => gd_t rfl (ldI_of ha2 ?_))
        rw [hzg] at hy; injection hy with hy; subst hy
        refine gd_t rfl (cl_of ok25 (index25 hlf) fun e Y2 ⟨he, hw⟩ => ⟨_, he, ?_⟩)
        subst hw
        refine ⟨fun _ => ldI_of ha2 rfl, gd_t rfl (cl_of ok25 (index25 hzl.1.1) fun e Y3 ⟨he, hw⟩ => ⟨_, he, ?_⟩)⟩
        subst hw
        have hlt2 := Lits.srt_lt hT.srt hz hl' (Nat.lt_succ_self _)
        refine pif_f (by rw [decide_eq_false (show ¬ Lits.idx l ≤ Lits.idx z by omega)]; rfl) ?_
        exact fin kY1
  · have hge : j = gn := by simp at hge; omega
    subst hge
    have e1 : j - 1 = L.length := by omega
    rw [e1, List.take_length] at hMm
    obtain rfl := hMb.uniq hMm fun l => Iff.rfl
    exact ⟨by simp, k07.then0 kY⟩
end
end Go.Proofs.Ytlbpllpomdjooaa.Learn
