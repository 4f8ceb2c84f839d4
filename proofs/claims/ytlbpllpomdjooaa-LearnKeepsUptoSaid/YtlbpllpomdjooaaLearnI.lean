/- Shrink, the document's. -/
import Derived.Test.YtlbpllpomdjooaaLearnH
set_option linter.unusedVariables false
set_option linter.unusedSimpArgs false
set_option maxRecDepth 100000
namespace Go.Proofs.Ytlbpllpomdjooaa.Learn
open Go Go.Proofs.Ytlbpllpomdjooaa.Vc Go.Proofs.Ytlbpllpomdjooaa.T
open Go.Proofs.Ytlbpllpomdjooaa.Apart (RdL own_rdl wrap_nat getE own_len copy same take_snoc Sl sv Gro)

theorem slA_zero (p : Option Addr) (c sz : Nat) : slA p c 0 sz = p := by
  unfold slA
  split
  · rfl
  · cases p with
    | none => rfl
    | some a => simp [Addr.add]
/-- does the i-th literal stay? -/
def Kp (es : List En) (cl : List Int) (i : Nat) (l : Int) : Prop := l ∉ cl.take i ∧ (i = 0 ∨ ∃ (a : Nat) (y : En), es[a]? = some y ∧ y.lit = neg l ∧ 0 < y.lev ∧ ¬ Cov es cl a)
open Classical in
noncomputable def shr (es : List En) (cl : List Int) : Nat → List Int
  | 0 => []
  | i + 1 => shr es cl i ++ (if Kp es cl i (cl.getD i 0) then [cl.getD i 0] else [])
theorem shr_yes {es : List En} {cl : List Int} {i : Nat} {l : Int} (hl : cl[i]? = some l) (h : Kp es cl i l) : shr es cl (i + 1) = shr es cl i ++ [l] := by
  have e : cl.getD i 0 = l := by rw [List.getD_eq_getElem?_getD, hl]; rfl
  rw [shr, e, if_pos h]
theorem shr_no {es : List En} {cl : List Int} {i : Nat} {l : Int} (hl : cl[i]? = some l) (h : ¬ Kp es cl i l) : shr es cl (i + 1) = shr es cl i := by
  have e : cl.getD i 0 = l := by rw [List.getD_eq_getElem?_getD, hl]; rfl
  rw [shr, e, if_neg h, List.append_nil]
theorem shr_len (es : List En) (cl : List Int) : ∀ i, (shr es cl i).length ≤ i := by
  intro i
  induction i with
  | zero => exact Nat.le_refl _
  | succ i ih =>
    rw [shr, List.length_append]
    split
    · simp; omega
    · simp; omega
def Shrunk (es : List En) (cs : List Int) (w : World) (v : Value) (w' : World) : Prop := ∃ (u : Int) (q : Option Addr) (qn qc : Nat) (L : List Int), v = .tuple #[.slice q qn qc, I u] ∧ Askd es cs u ∧ Own w' 3 1 q qn qc (L.map I) ∧ (∀ j, ob q j → w.heap.size ≤ j) ∧ (u = 0 → L = shr es cs cs.length) ∧ (u ≠ 0 → L = []) ∧ Keep None w w'
theorem kp_iff {es : List En} {cl : List Int} (hF : Fm es) {i : Nat} {l : Int} (hfl : fl l = true) {a : Nat} {y : En} (hy : es[a]? = some y) (hyl : y.lit = neg l) (hi : i ≠ 0) (hno : l ∉ cl.take i) : Kp es cl i l ↔ 0 < y.lev ∧ ¬ Cov es cl a := by
  constructor
  · rintro ⟨_, h⟩
    rcases h with h | ⟨a', y', h1, h2, h3, h4⟩
    · exact absurd h hi
    · have e := fm_uniq hF hfl h1 hy (Or.inr h2) (Or.inr hyl)
      subst e
      rw [hy] at h1; injection h1 with h1
      subst h1
      exact ⟨h3, h4⟩
  · exact fun h => ⟨hno, Or.inr ⟨a, y, hy, hyl, h.1, h.2⟩⟩
section
variable {w w' : World} {p q : Option Addr} {n m c d : Nat} {es : List En} {cs : List Int}
theorem shrink17 (hE : RdE w p n es) (hn : n ≤ 1048576) (hc : n ≤ c) (hr : ∀ x ∈ es, x.rs.length ≤ 1048576) (hC : RdL w q m cs) (hm : m ≤ 1048576) (hd : m ≤ d) :
    Calls Try.prog 17 #[.slice p n c, .slice q m d] w fun e w' => ∃ v, e = .returned v ∧ Shrunk es cs w v w' := by
  refine V17_calls p n c q m d w (Shrunk es cs w) ?_
  unfold V17
  have hcl := hC.len
  have hl := hE.len
  refine cl_of ok45 (asked45 hE hn hc hr hC hm) fun e w1 ⟨u, he, hu, k1⟩ => ⟨u, he, ?_⟩
  by_cases hu0 : u ≠ 0
  · exact pif_t (by simpa using hu0) ⟨u, none, 0, 0, [], rfl, hu, Own.nil _ _ _, (fun j ⟨a, hh, _⟩ => by cases hh), fun h => absurd h hu0, fun _ => rfl, k1⟩
  obtain rfl : u = 0 := Classical.byContradiction hu0
  obtain ⟨hFa, hF, hs⟩ : Fals es cs ∧ Fm es ∧ cs.all fl = true := by
    rcases hu with ⟨h, _⟩ | ⟨h, _⟩ | ⟨_, h⟩
    · cases h
    · cases h
    · exact h
  refine pif_f rfl (cl_of ok46 (covered46 hF (hE.keep0 k1) hn hr (hC.keep0 k1) hm) fun e w2 ⟨s, sd, bs, he, hO, hbs, k2⟩ => ⟨s, n, sd, he, ?_⟩)
  have k02 := k1.then0 k2
  have hbl : bs.length = n := by have := hO.len; simpa using this
  refine lp_of (fun t w' => ∃ i : Nat, t.2.1 = (i : Int) ∧ i ≤ m ∧ Gro w2 w' t.1.1 t.1.2.1 t.1.2.2 (shr es cs i)) (fun t _ => (m - t.2.1).toNat) ⟨0, rfl, Nat.zero_le _, Gro.nil w2⟩ ?_
  rintro ⟨⟨g, gn, gc⟩, i', ⟨⟩⟩ w3 ⟨i, rfl, hi, hG⟩
  simp only [] at hG ⊢
  have hgl := hG.len
  have hsl := shr_len es cs i
  have k03 := k02.then0 hG.keep
  refine pif_of (fun hlt => ?_) fun hge => ?_
  · have hlt : i < m := by simpa using hlt
    rw [wrap_nat i (by omega)]
    obtain ⟨l, hl1⟩ := getE (show i < cs.length by omega)
    have hlm := List.mem_of_getElem? hl1
    have hfl : fl l = true := List.all_eq_true.1 hs l hlm
    obtain ⟨y, hym, hyl⟩ := hFa l hlm
    obtain ⟨a, hya⟩ := List.mem_iff_getElem?.1 hym
    have ha := (List.getElem?_eq_some_iff.1 hya).1
    have rd : ∀ {w' : World} {K : Int → Prop}, Keep None w w' → K l → ixA q m (i : Int) 1 fun p21 => ldI .i64 w' p21 K := fun k hK => (hC.keep0 k).ix hlt fun a y hy ha => by
      rw [hl1] at hy; injection hy with hy; subst hy
      exact ldI_of ha hK
    refine ⟨fun t w' => Gro w2 w' t.1.1 t.1.2.1 t.1.2.2 (shr es cs (i + 1)), ?_, fun t w4 hG4 => ⟨⟨i + 1, rfl, hlt, hG4⟩, by omega⟩⟩
    refine rd k03 (cl_of ok36 (place36 (hE.keep0 k03) (by omega) l) fun e w4 ⟨v, he, hv, k4⟩ => ⟨v, he, by omega, by omega, ?_⟩)
    have hva : v = (a : Int) := by
      rcases hv with ⟨_, h⟩ | ⟨k, x2, hv, hx2, hxl2, _⟩
      · exact absurd hyl (h y hym)
      · rw [hv, fm_uniq hF hfl hx2 hya (Or.inr hxl2) (Or.inr hyl)]
    subst hva
    have dr : Keep None w4 w4.drew := (Keep.refl _ _).drew
    have k3d : Keep None w3 w4.drew := k4.then0 dr
    refine rd (k03.then0 k3d) ?_
    rw [slA_zero]
    simp only [Int.toNat_natCast, Nat.sub_zero]
    have hpre : RdL w4.drew q i (cs.take i) := by
      have := hC.keep0 (k03.then0 k3d)
      refine ⟨by simp; omega, fun j x hx => ?_⟩
      rw [List.getElem?_take] at hx
      split at hx
      · exact this.cell j x hx
      · cases hx
    refine cl_of ok42 (has42 hpre (by omega) l) fun e w5 ⟨he, k5⟩ => ⟨_, he, ?_⟩
    have hG5 := hG.keep0 (k3d.then0 k5)
    have k05 := k03.then0 (k3d.then0 k5)
    have k25 := hG5.keep
    by_cases hin : l ∈ cs.take i
    · refine pif_t (decide_eq_true hin) ?_
      rw [shr_no hl1 fun h => h.1 hin]; exact hG5
    · refine pif_f (decide_eq_false hin) ?_
      have out : ∀ {w6 : World}, Keep None w5 w6 → Kp es cs i l → ixA q m (i : Int) 1 fun p43 => ldI .i64 w6 p43 fun x44 => alc w6 [.int .i64 x44] 3 fun b45 w11 =>
          ∃ (x46 : Option Addr) (x46n x46c : Nat), ∃ w12 : World, (Builtin.append_ #[25, 25] 25 #[.slice g gn gc, .slice (some (⟨b45, 0, none⟩ : Addr)) 1 1]).run Try.prog w11 = .ok (.slice x46 x46n x46c) w12 ∧ Gro w2 w12 x46 x46n x46c (shr es cs (i + 1)) := fun k6 hk => by
        refine rd (k05.then0 k6) ((hG5.keep0 k6).app (by omega) fun p' c' w7 hG7 => ?_)
        rw [shr_yes hl1 hk]; exact hG7
      by_cases hi0 : i = 0
      · have e0 : ((i : Int) == 0) = true := by simp [hi0]
        have e1 : (!((i : Int) == 0)) = false := by rw [e0]; rfl
        have e2 : ∀ z : Bool, ((!((i : Int) == 0)) && z) = false := fun z => by rw [e1]; rfl
        exact gd_f e1 (gd_f e1 (gd_f (e2 _) (gd_f (e2 _) (pif_t (by rw [e0]; rfl) (out (Keep.refl _ _) ⟨hin, Or.inl hi0⟩)))))
      · have e0 : ((i : Int) == 0) = false := by simpa using hi0
        have e1 : (!((i : Int) == 0)) = true := by rw [e0]; rfl
        have kpi := kp_iff (cl := cs) hF hfl hya hyl hi0 hin
        refine gd_t e1 ((hE.keep0 k05).ix hya fun ad ⟨_, _, _, _, c1, _⟩ => gd_t e1 (ldI_of c1 ?_))
        by_cases hlev : 0 < y.lev
        · have e2 : ((!((i : Int) == 0)) && decide (y.lev > 0)) = true := by rw [e1, decide_eq_true hlev]; rfl
          obtain ⟨b, hb⟩ := getE (show a < bs.length by omega)
          have hbv := hbs a b hb
          refine gd_t e2 (own_at (hO.keep0 k25) (show a < n by omega) fun ad vv hvv hcc => gd_t e2 (ldB_of (x := b) (by
            rw [List.getElem?_map, hb] at hvv
            injection hvv with hvv
            rw [hcc, ← hvv]) ?_))
          cases b with
          | true =>
            refine pif_f (by rw [e0, decide_eq_true hlev]; rfl) ?_
            show Gro w2 w5 g gn gc (shr es cs (i + 1))
            rw [shr_no hl1 fun h => (kpi.1 h).2 (hbv.1 rfl)]; exact hG5
          | false =>
            exact pif_t (by rw [e0, decide_eq_true hlev]; rfl) (out (Keep.refl _ _) (kpi.2 ⟨hlev, fun h => by have := hbv.2 h; cases this⟩))
        · have e2 : ((!((i : Int) == 0)) && decide (y.lev > 0)) = false := by rw [decide_eq_false hlev]; simp
          refine gd_f e2 (gd_f e2 (pif_f (by rw [e0, decide_eq_false hlev]; rfl) ?_))
          show Gro w2 w5 g gn gc (shr es cs (i + 1))
          rw [shr_no hl1 fun h => hlev (kpi.1 h).1]; exact hG5
  · have hge : i = m := by simp at hge; omega
    subst hge
    have z2 := k02.size
    exact ⟨0, g, gn, gc, _, rfl, hu, hG.own, fun j hj => by have := hG.new j hj; omega, fun _ => by rw [hcl], fun h => absurd rfl h, k03⟩
end
end Go.Proofs.Ytlbpllpomdjooaa.Learn
