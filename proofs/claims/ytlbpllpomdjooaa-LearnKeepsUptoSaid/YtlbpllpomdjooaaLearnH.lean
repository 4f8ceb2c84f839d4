/- Shrink: what is asked, what the document covers. -/
import Derived.Test.YtlbpllpomdjooaaLearnG
set_option linter.unusedVariables false
set_option linter.unusedSimpArgs false
set_option maxRecDepth 100000
namespace Go.Proofs.Ytlbpllpomdjooaa.Learn
open Go Go.Proofs.Ytlbpllpomdjooaa.Vc Go.Proofs.Ytlbpllpomdjooaa.T
open Go.Proofs.Ytlbpllpomdjooaa.Apart (RdL own_rdl wrap_nat getE own_len copy same take_snoc Sl sv Gro)

section
variable {w : World} {e : TypeId} {p : Option Addr} {n c i : Nat} {xs : List Value}
theorem own_at {K : Addr → Prop} (h : Own w e 1 p n c xs) (hi : i < n) (hK : ∀ a v, xs[i]? = some v → w.cell? a = some v → K a) : ixA p n (i : Int) 1 K := by
  have hl := h.len
  refine h.ix (by omega) (by omega) fun b hb => ?_
  rw [Nat.mul_one, Int.toNat_natCast]
  have h' := h
  rw [hb] at h'
  obtain ⟨v, hv⟩ := getE (show i < xs.length by omega)
  exact hK _ v hv (by rw [h'.cell _ (by omega), hv])
theorem app_one {t : TypeId} {B m : Nat} {z v : Value} {K : Option Addr → Nat → Nat → World → Prop} (ht : Try.prog.underlying t = some (.slice e)) (hi0 : (Try.prog.info? e).map (fun i => (i.zero, i.size, i.bytes)) = some (some z, 1, B)) (hz : z.cells.size = 1) (hB : B ≤ 64)
    (hv : v.oneCell' = true) (h : Own w e 1 p m c xs) (hm : m < 1099511627776)
    (hk : ∀ p' c' w', Own w' e 1 p' (m + 1) c' (xs ++ [v]) → Keep (ob p) w w' → (∀ i, ob p' i → ob p i ∨ w.heap.size ≤ i) → K p' (m + 1) c' w') :
    alc w [v] e fun b w7 => ∃ (p' : Option Addr) (n' c' : Nat), ∃ w' : World, (Builtin.append_ #[t, t] t #[.slice p m c, .slice (some ⟨b, 0, none⟩) 1 1]).run Try.prog w7 = .ok (.slice p' n' c') w' ∧ K p' n' c' w' := by
  refine alc_at fun b w7 hb7 h7 k7 => ?_
  have z7 := k7.size
  refine app_of2 (e := e) (sz := 1) (z := z) (B := B) ht hi0 hz (by omega) (h.keep0 k7) h7.news1 (fun u hu => ?_) (by simp only [maxLen]; omega) ?_ fun p' c' w' hO' hd => ?_
  · simp only [List.mem_singleton] at hu; subst hu; exact hv
  · have : (m + 1) * B ≤ 1099511627776 * 64 := Nat.mul_le_mul (by omega) hB
    omega
  · rcases hd with ⟨e1, e2, _, k⟩ | ⟨e1, k⟩
    · exact hk p' c' w' hO' ((k7.none).trans k fun _ _ h => h) fun i hi => Or.inl (by rw [← e1]; exact hi)
    · exact hk p' c' w' hO' ((k7.none).trans k.none fun _ _ h => h) fun i hi => Or.inr (by have := e1 i hi; omega)
end
theorem info3 : (Try.prog.info? 3).map (fun i => (i.zero, i.size, i.bytes)) = some (some (I 0), 1, 8) := by kernel_rfl
theorem info4 : (Try.prog.info? 4).map (fun i => (i.zero, i.size, i.bytes)) = some (some (Value.bool false), 1, 1) := by kernel_rfl
def Fals (es : List En) (cs : List Int) : Prop := ∀ l ∈ cs, ∃ y ∈ es, y.lit = neg l
/-- whether it is a trail and a clause that is false under it -/
def Askd (es : List En) (cs : List Int) (v : Int) : Prop :=
  (v = 1 ∧ ¬ (Fm es ∧ cs.all fl = true)) ∨ (v = 2 ∧ ¬ Fals es cs ∧ Fm es ∧ cs.all fl = true) ∨ (v = 0 ∧ Fals es cs ∧ Fm es ∧ cs.all fl = true)
theorem Askd.unique {es : List En} {cs : List Int} {v u : Int} (h : Askd es cs v) (h' : Askd es cs u) : v = u := by
  rcases h with ⟨rfl, a⟩ | ⟨rfl, a, b⟩ | ⟨rfl, a, b⟩ <;> rcases h' with ⟨rfl, a'⟩ | ⟨rfl, a', b'⟩ | ⟨rfl, a', b'⟩
  · rfl
  · exact absurd b' a
  · exact absurd b' a
  · exact absurd b a'
  · rfl
  · exact absurd a' a
  · exact absurd b a'
  · exact absurd a a'
  · rfl
section
variable {w w' : World} {p q : Option Addr} {n m c d : Nat} {es : List En} {cs : List Int}
theorem asked43 (hE : RdE w p n es) (hn : n ≤ 1048576) (hr : ∀ x ∈ es, x.rs.length ≤ 1048576) (hC : RdL w q m cs) (hm : m ≤ 1048576) {r : Nat} {fa : List (Int × Int)} (hM : Mp w r fa) (hP : Pm fa es) :
    Calls Try.prog 43 #[.slice p n c, .slice q m d, .map (some r)] w fun e w' => ∃ v, e = .returned (I v) ∧ Askd es cs v ∧ Keep None w w' := by
  refine (V43_calls p n c q m d (some r) w (fun v w' => ∃ u, v = I u ∧ Askd es cs u ∧ Keep None w w') ?_).mono fun e w' ⟨v, he, u, hv, hk⟩ => ⟨u, by rw [he, hv], hk⟩
  unfold V43
  have hcl := hC.len
  refine cl_of ok10 (formed10 hE (by omega) (fun x hx => by have := hr x hx; omega)) fun e w1 ⟨b, he, hb, k1⟩ => ⟨b, he, ?_⟩
  cases b with
  | false => exact gd_f rfl (pif_t rfl ⟨1, rfl, Or.inl ⟨rfl, fun h => by have := hb.2 h.1; cases this⟩, k1⟩)
  | true =>
    have hF := hb.1 rfl
    refine gd_t rfl (cl_of ok39 (sound39 (hC.keep0 k1) (by omega)) fun e w2 ⟨he, k2⟩ => ⟨_, he, ?_⟩)
    have k02 := k1.then0 k2
    cases hs : cs.all fl with
    | false => exact pif_t rfl ⟨1, rfl, Or.inl ⟨rfl, fun h => by have := h.2; rw [hs] at this; cases this⟩, k02⟩
    | true =>
      refine pif_f rfl (lp_of (fun s w' => ∃ i : Nat, s.1 = (i : Int) ∧ i ≤ m ∧ Keep None w w' ∧ Fals es (cs.take i)) (fun s _ => (m - s.1).toNat) ⟨0, rfl, Nat.zero_le _, k02, fun l hl => by cases hl⟩ ?_)
      rintro ⟨i', ⟨⟩⟩ w3 ⟨i, rfl, hi, k3, hfa⟩
      simp only []
      refine pif_of (fun hlt => ?_) fun hge => ?_
      · have hlt : i < m := by simpa using hlt
        rw [wrap_nat i (by omega)]
        refine (hC.keep0 k3).ix hlt fun a l hl ha => ldI_of ha (lk_of u52 Try.underlying3 z3 (hM.keep0 k3) ?_)
        have hfl : fl l = true := List.all_eq_true.1 hs l (List.mem_of_getElem? hl)
        rcases hP l with ⟨e, hno⟩ | ⟨k, x, e, hx, hxl⟩
        · rw [e]
          refine pif_t rfl ⟨2, rfl, Or.inr (Or.inl ⟨rfl, fun h => ?_, hF, hs⟩), k3⟩
          obtain ⟨y, hy, hyl⟩ := h l (List.mem_of_getElem? hl)
          exact hno y hy (by rw [hyl, neg_neg hfl])
        · rw [e]
          refine pif_f (by simp; omega) ⟨⟨i + 1, rfl, hlt, k3, fun l' hl' => ?_⟩, by omega⟩
          rw [take_snoc hl, List.mem_append, List.mem_singleton] at hl'
          rcases hl' with hl' | rfl
          · exact hfa l' hl'
          · exact ⟨x, List.mem_of_getElem? hx, by rw [← hxl, neg_neg (hF k x hx).1]⟩
      · have hge : i = m := by simp at hge; omega
        subst hge
        rw [← hcl, List.take_length] at hfa
        exact ⟨0, rfl, Or.inr (Or.inr ⟨rfl, hfa, hF, hs⟩), k3⟩
theorem false23 (hE : RdE w p n es) (hn : n ≤ 1048576) (hC : RdL w q m cs) (hm : m ≤ 1048576) : Calls Try.prog 23 #[.slice p n c, .slice q m d] w fun e w' => ∃ b, e = .returned (.bool b) ∧ (b = true ↔ Fals es cs) ∧ Keep None w w' := by
  refine (V23_calls p n c q m d w (fun v w' => ∃ b, v = .bool b ∧ (b = true ↔ Fals es cs) ∧ Keep None w w') ?_).mono fun e w' ⟨v, he, u, hv, hk⟩ => ⟨u, by rw [he, hv], hk⟩
  unfold V23
  have hcl := hC.len
  refine lp_of (fun s w' => ∃ i : Nat, s.1 = (i : Int) ∧ i ≤ m ∧ Keep None w w' ∧ Fals es (cs.take i)) (fun s _ => (m - s.1).toNat) ⟨0, rfl, Nat.zero_le _, Keep.refl _ _, fun l hl => by cases hl⟩ ?_
  rintro ⟨i', ⟨⟩⟩ w3 ⟨i, rfl, hi, k3, hfa⟩
  simp only []
  refine pif_of (fun hlt => ?_) fun hge => ?_
  · have hlt : i < m := by simpa using hlt
    rw [wrap_nat i (by omega)]
    refine (hC.keep0 k3).ix hlt fun a l hl ha => ldI_of ha (cl_of ok36 (place36 (hE.keep0 k3) (by omega) l) fun e w4 ⟨v, he, hv, k4⟩ => ⟨v, he, ?_⟩)
    have hv := hv.nonneg
    refine pif_of (fun hneg => ⟨false, rfl, ⟨(fun h => by cases h), fun h => ?_⟩, k3.then0 k4⟩) fun hpos => ⟨⟨i + 1, rfl, hlt, k3.then0 k4, fun l' hl' => ?_⟩, by omega⟩
    · have hneg : v < 0 := by simpa using hneg
      have := hv.2 (h l (List.mem_of_getElem? hl))
      omega
    · have hpos : 0 ≤ v := by simpa using hpos
      rw [take_snoc hl, List.mem_append, List.mem_singleton] at hl'
      rcases hl' with hl' | rfl
      · exact hfa l' hl'
      · exact hv.1 hpos
  · have hge : i = m := by simp at hge; omega
    subst hge
    rw [← hcl, List.take_length] at hfa
    exact ⟨true, rfl, ⟨fun _ => hfa, fun _ => rfl⟩, k3⟩
theorem asked45 (hE : RdE w p n es) (hn : n ≤ 1048576) (hc : n ≤ c) (hr : ∀ x ∈ es, x.rs.length ≤ 1048576) (hC : RdL w q m cs) (hm : m ≤ 1048576) :
    Calls Try.prog 45 #[.slice p n c, .slice q m d] w fun e w' => ∃ v, e = .returned (I v) ∧ Askd es cs v ∧ Keep None w w' := by
  refine (V45_calls p n c q m d w (fun v w' => ∃ u, v = I u ∧ Askd es cs u ∧ Keep None w w') ?_).mono fun e w' ⟨v, he, u, hv, hk⟩ => ⟨u, by rw [he, hv], hk⟩
  unfold V45
  refine cl_of ok12 (formed12 hE (by omega) hc (fun x hx => by have := hr x hx; omega)) fun e w1 ⟨b, he, hb, k1⟩ => ⟨b, he, ?_⟩
  cases b with
  | false => exact gd_f rfl (pif_t rfl ⟨1, rfl, Or.inl ⟨rfl, fun h => by have := hb.2 h.1; cases this⟩, k1⟩)
  | true =>
    have hF := hb.1 rfl
    refine gd_t rfl (cl_of ok41 (sound41 (hC.keep0 k1) (by omega)) fun e w2 ⟨he, k2⟩ => ⟨_, he, ?_⟩)
    have k02 := k1.then0 k2
    cases hs : cs.all fl with
    | false => exact pif_t rfl ⟨1, rfl, Or.inl ⟨rfl, fun h => by have := h.2; rw [hs] at this; cases this⟩, k02⟩
    | true =>
      refine pif_f rfl (cl_of ok23 (false23 (hE.keep0 k02) hn (hC.keep0 k02) hm) fun e w3 ⟨b, he, hb, k3⟩ => ⟨b, he, ?_⟩)
      cases b with
      | false => exact pif_t rfl ⟨2, rfl, Or.inr (Or.inl ⟨rfl, (fun h => by have := hb.2 h; cases this), hF, hs⟩), k02.then0 k3⟩
      | true => exact pif_f rfl ⟨0, rfl, Or.inr (Or.inr ⟨rfl, hb.1 rfl, hF, hs⟩), k02.then0 k3⟩
/-- what is asked of a reason's literals so far -/
def Cv (es : List En) (cl : List Int) (x : En) (os : List Int) : Prop := ∀ o ∈ os, o ≠ x.lit → ∀ (a : Nat) (y : En), es[a]? = some y → y.lit = neg o → 0 < y.lev → o ∉ cl → Cov es cl a
theorem cov_iff {i : Nat} {x : En} {cl : List Int} (hx : es[i]? = some x) : Cov es cl i ↔ x.rs ≠ [] ∧ Cv es cl x x.rs := by
  constructor
  · intro h
    cases h with
    | mk hx' hne h => rw [hx] at hx'; injection hx' with hx'; subst hx'; exact ⟨hne, h⟩
  · exact fun h => Cov.mk hx h.1 h.2
theorem covered46 (hF : Fm es) (hE : RdE w p n es) (hn : n ≤ 1048576) (hr : ∀ x ∈ es, x.rs.length ≤ 1048576) (hC : RdL w q m cs) (hm : m ≤ 1048576) :
    Calls Try.prog 46 #[.slice p n c, .slice q m d] w fun e w' => ∃ (s : Option Addr) (sd : Nat) (bs : List Bool), e = .returned (.slice s n sd) ∧ Own w' 4 1 s n sd (bs.map Value.bool) ∧ (∀ (i : Nat) (b : Bool), bs[i]? = some b → (b = true ↔ Cov es cs i)) ∧ Keep None w w' := by
  refine (V46_calls p n c q m d w (fun v w' => ∃ (s : Option Addr) (sd : Nat) (bs : List Bool), v = .slice s n sd ∧ Own w' 4 1 s n sd (bs.map Value.bool) ∧ (∀ (i : Nat) (b : Bool), bs[i]? = some b → (b = true ↔ Cov es cs i)) ∧ Keep None w w') ?_).mono fun e w' ⟨v, he, s, sd, bs, hv, hk⟩ => ⟨s, sd, bs, by rw [he, hv], hk⟩
  unfold V46
  have hl := hE.len
  refine lp_of (fun s w' => ∃ (i : Nat) (bs : List Bool), s.2.1 = (i : Int) ∧ i ≤ n ∧ s.1.2.1 = i ∧ Own w' 4 1 s.1.1 i s.1.2.2 (bs.map Value.bool) ∧ (∀ j, ob s.1.1 j → w.heap.size ≤ j) ∧ (∀ (j : Nat) (b : Bool), bs[j]? = some b → (b = true ↔ Cov es cs j)) ∧ Keep None w w') (fun s _ => (n - s.2.1).toNat)
    ⟨0, [], rfl, Nat.zero_le _, rfl, Own.nil _ _ _, (fun j ⟨a, hh, _⟩ => by cases hh), (fun j b hb => by simp at hb), Keep.refl _ _⟩ ?_
  rintro ⟨⟨s, sn, sd⟩, i', ⟨⟩⟩ w1 ⟨i, bs, rfl, hi, hsn, hO, hnew, hbs, k1⟩
  simp only [] at hsn hO hnew ⊢
  subst hsn
  have hbl : bs.length = sn := by have := hO.len; simpa using this
  refine pif_of (fun hlt => ?_) fun hge => ?_
  · have hlt : sn < n := by simpa using hlt
    obtain ⟨x, hx⟩ := getE (show sn < es.length by omega)
    have hg := hF sn x hx
    refine (hE.keep0 k1).ix hx fun ad ⟨q1, rn, rc, c0, c1, c2, hq⟩ => ldC_of c2 ?_
    have hql := hq.len
    have hrx := hr x (List.mem_of_getElem? hx)
    refine lp_of (fun t w' => ∃ j : Nat, t.2.1 = (j : Int) ∧ j ≤ rn ∧ Keep None w1 w' ∧ (t.1 = true ↔ x.rs ≠ [] ∧ Cv es cs x (x.rs.take j))) (fun t _ => (rn - t.2.1).toNat)
      ⟨0, rfl, Nat.zero_le _, Keep.refl _ _, ?_⟩ ?_
    · have : x.rs ≠ [] ↔ 0 < rn := by rw [← hql]; exact List.length_pos_iff.symm
      rw [this]
      simp [Cv]
    rintro ⟨yes, j', ⟨⟩⟩ w2 ⟨j, rfl, hj, k2, hyes⟩
    simp only [] at hyes ⊢
    have k02 := k1.then0 k2
    have rdx : ∀ {w' : World}, Keep None w w' → ∀ {K : Option Addr → Nat → Nat → Prop}, (∀ q1 rc, RdL w' q1 rn x.rs → K q1 rn rc) → ixA p n (sn : Int) 3 fun p18 => ldC w' (p18.add 2) K := fun {w'} k {K} hK => (hE.keep0 k).ix hx fun ad ⟨q2, rn2, rc2, _, _, c2, hq2⟩ => ldC_of c2 (by
      have := hq2.len
      obtain rfl : rn2 = rn := by omega
      exact hK _ _ hq2)
    refine rdx k02 fun q2 rc2 hq2 => pif_of (fun hjl => ?_) fun hjg => ?_
    · have hjl : j < rn := by simpa using hjl
      rw [wrap_nat j (by omega)]
      obtain ⟨o, ho⟩ := getE (show j < x.rs.length by omega)
      have hom := List.mem_of_getElem? ho
      have hR := hg.2.2.2 (fun e => by rw [e] at hom; cases hom)
      have hfo : fl o = true := List.all_eq_true.1 hR.1 o hom
      have cv_snoc : Cv es cs x (x.rs.take (j + 1)) ↔ Cv es cs x (x.rs.take j) ∧ Cv es cs x [o] := by
        rw [take_snoc ho]
        unfold Cv
        simp only [List.mem_append, List.mem_singleton]
        constructor
        · exact fun h => ⟨fun o' h' => h o' (Or.inl h'), fun o' h' => h o' (Or.inr h')⟩
        · exact fun h o' h' => h'.elim (h.1 o') (h.2 o')
      refine ⟨fun t w' => Keep None w1 w' ∧ (t.1 = true ↔ x.rs ≠ [] ∧ Cv es cs x (x.rs.take (j + 1))), ?_, ?_⟩
      · refine rdx k02 fun q3 rc3 hq3 => hq3.ix hjl fun a o' ho' ha => ldI_of ha ?_
        rw [ho] at ho'
        injection ho' with ho'
        subst ho'
        refine cl_of ok36 (place36 (hE.keep0 k02) (by omega) o) fun e w3 ⟨v, he, hv, k3⟩ => ⟨v, he, ?_⟩
        have k13 := k2.then0 k3
        have k03 := k02.then0 k3
        refine (hE.keep0 k03).ix hx fun ad ⟨_, _, _, c0, _⟩ => ldI_of c0 ?_
        have triv_ : Cv es cs x [o] → Keep None w1 w3 ∧ (yes = true ↔ x.rs ≠ [] ∧ Cv es cs x (x.rs.take (j + 1))) := fun h => ⟨k13, by
          rw [cv_snoc, hyes]
          exact ⟨fun h' => ⟨h'.1, h'.2, h⟩, fun h' => ⟨h'.1, h'.2.1⟩⟩⟩
        by_cases hol : o = x.lit
        · refine pif_t (by simp [hol]) (triv_ fun o' ho' hne => ?_)
          simp only [List.mem_singleton] at ho'
          exact absurd (ho'.trans hol) hne
        · obtain ⟨y, hym, hyl⟩ := hR.2.2 o hom hol
          obtain ⟨a', hya⟩ := List.mem_iff_getElem?.1 hym
          have hai : a' < sn := by
            have := (List.getElem?_eq_some_iff.1 hya).1
            rw [List.length_take] at this; omega
          rw [List.getElem?_take, if_pos hai] at hya
          have uniq : ∀ (a2 : Nat) (y2 : En), es[a2]? = some y2 → y2.lit = neg o → a2 = a' ∧ y2 = y := fun a2 y2 h1 h2 => by
            have : a2 = a' := fm_uniq hF hfo h1 hya (Or.inr h2) (Or.inr hyl)
            subst this
            rw [hya] at h1; injection h1 with h1
            exact ⟨rfl, h1.symm⟩
          have hva : v = (a' : Int) := by
            rcases hv with ⟨_, h⟩ | ⟨k, x2, hv, hx2, hxl2, _⟩
            · exact absurd hyl (h y (List.mem_of_getElem? hya))
            · rw [hv, (uniq k x2 hx2 hxl2).1]
          subst hva
          have cv1 : Cv es cs x [o] ↔ (0 < y.lev → o ∉ cs → Cov es cs a') := by
            unfold Cv
            simp only [List.mem_singleton]
            constructor
            · exact fun h => h o rfl hol a' y hya hyl
            · rintro h o' rfl _ a2 y2 h1 h2 h3 h4
              obtain ⟨rfl, rfl⟩ := uniq a2 y2 h1 h2
              exact h h3 h4
          have n1 : ¬ (a' : Int) ≥ (sn : Int) := by omega
          have n2 : ¬ (a' : Int) < 0 := by omega
          refine pif_f (by simp [hol, n1, n2]) ((hE.keep0 k03).ix hya fun ad ⟨_, _, _, _, c1, _⟩ => ldI_of c1 ?_)
          by_cases hlev : 0 < y.lev
          · have e1 : decide (y.lev > 0) = true := decide_eq_true hlev
            refine gd_t e1 (cl_of ok42 (has42 (hC.keep0 k03) (by omega) o) fun e w4 ⟨he, k4⟩ => ⟨_, he, ?_⟩)
            have k14 := k13.then0 k4
            have k04 := k03.then0 k4
            by_cases hin : o ∈ cs
            · have e2 : (cond (decide (y.lev > 0)) (!(decide (o ∈ cs))) false) = false := by rw [decide_eq_true hin]; simp
              have := triv_ (cv1.2 fun _ h => absurd hin h)
              exact gd_f e2 (gd_f e2 (pif_f (by rw [e2]; rfl) ⟨k14, this.2⟩))
            · have e2 : (cond (decide (y.lev > 0)) (!(decide (o ∈ cs))) false) = true := by rw [decide_eq_false hin, e1]; rfl
              obtain ⟨b, hb⟩ := getE (show a' < bs.length by omega)
              have hbv := hbs a' b hb
              refine gd_t e2 (own_at ((hO.keep0 k2).keep0 (k3.then0 k4)) hai fun ad vv hvv hcc => gd_t e2 (ldB_of (x := b) (by
                rw [List.getElem?_map, hb] at hvv
                injection hvv with hvv
                rw [hcc, ← hvv]) ?_))
              cases b with
              | true =>
                have := triv_ (cv1.2 fun _ _ => hbv.1 rfl)
                exact pif_f (by rw [e2]; rfl) ⟨k14, this.2⟩
              | false =>
                refine pif_t (by rw [e2]; rfl) ⟨k14, ⟨(fun h => by cases h), fun h => ?_⟩⟩
                have := hbv.2 ((cv1.1 (cv_snoc.1 h.2).2) hlev hin)
                cases this
          · have e1 : decide (y.lev > 0) = false := decide_eq_false hlev
            have e2 : ∀ z : Bool, (cond (decide (y.lev > 0)) z false) = false := fun z => by rw [e1]; rfl
            have := triv_ (cv1.2 fun h => absurd h hlev)
            exact gd_f e1 (gd_f (e2 _) (gd_f (e2 _) (pif_f (by rw [e2]; rfl) this)))
      · rintro ⟨y', ⟨⟩⟩ w3 ⟨k3, hy3⟩
        exact ⟨⟨j + 1, rfl, hjl, k3, hy3⟩, by omega⟩
    · have hge : j = rn := by simp at hjg; omega
      subst hge
      rw [← hql, List.take_length, ← cov_iff hx] at hyes
      rw [wrap_nat sn (by omega)]
      refine app_one (t := 63) (B := 1) Try.underlying63 info4 rfl (by omega) rfl (hO.keep0 k2) (by omega) fun p' c' w3 hO3 k3 hob => ⟨⟨sn + 1, bs ++ [yes], rfl, hlt, rfl, ?_, fun j hj => ?_, fun j b hb => ?_, ?_⟩, by omega⟩
      · rw [List.map_append]; exact hO3
      · rcases hob j hj with h | h
        · exact hnew j h
        · have := k02.size; omega
      · by_cases hjs : j < bs.length
        · rw [List.getElem?_append_left hjs] at hb; exact hbs j b hb
        · rw [List.getElem?_append_right (by omega)] at hb
          have hj0 : j = sn := by
            have := (List.getElem?_eq_some_iff.1 hb).1
            simp at this; omega
          subst hj0
          rw [hbl, Nat.sub_self] at hb
          injection hb with hb
          rw [← hb]; exact hyes
      · exact k02.trans k3 fun j hj hh => by have := hnew j hh; omega
  · have hge : sn = n := by simp at hge; omega
    subst hge
    exact ⟨s, sd, bs, rfl, hO, hbs, k1⟩
end
end Go.Proofs.Ytlbpllpomdjooaa.Learn
