/- What makes a trail: the program's Formed. -/
import Derived.Test.YtlbpllpomdjooaaLearnB
set_option linter.unusedVariables false
set_option linter.unusedSimpArgs false
set_option maxRecDepth 100000
namespace Go.Proofs.Ytlbpllpomdjooaa.Learn
open Go Go.Proofs.Ytlbpllpomdjooaa.Vc Go.Proofs.Ytlbpllpomdjooaa.T
open Go.Proofs.Ytlbpllpomdjooaa.Apart (RdL own_rdl wrap_nat getE own_len copy same take_snoc Sl sv)

theorem u52 : Try.prog.underlying 52 = some (.map 3 3) := Try.underlying52
theorem z3 : (Try.prog.info? 3).map (·.zero) = some (some (.int .i64 0)) := by kernel_rfl
/-- the literals of some entries, as the map knows them -/
def Kn (f : List (Int × Int)) (pre : List En) : Prop := ∀ l, (mget l f = 1 ∧ ∃ y ∈ pre, y.lit = l) ∨ (mget l f = 0 ∧ ∀ y ∈ pre, y.lit ≠ l)
theorem Kn.pos {f : List (Int × Int)} {pre : List En} (h : Kn f pre) (l : Int) : decide (mget l f > 0) = true ↔ ∃ y ∈ pre, y.lit = l := by
  rcases h l with ⟨e, hy⟩ | ⟨e, hn⟩
  · rw [e]; exact ⟨fun _ => hy, fun _ => rfl⟩
  · rw [e]; exact ⟨fun h => absurd h (by decide), fun ⟨y, hy, hl⟩ => absurd hl (hn y hy)⟩
section
variable {w w' : World} {p : Option Addr} {n c : Nat} {es : List En}
theorem reason34 {lit lev : Int} {q : Option Addr} {rn rc r : Nat} {rs : List Int} {f : List (Int × Int)} {pre : List En} (hq : RdL w q rn rs) (hrn : rn ≤ 1099511627776) (hM : Mp w r f) (hK : Kn f pre) :
    Calls Try.prog 34 #[.agg #[I lit, I lev, .slice q rn rc], .map (some r)] w fun e w' => ∃ b, e = .returned (.bool b) ∧ (b = true ↔ Rsn pre ⟨lit, lev, rs⟩) ∧ Keep None w w' := by
  refine (V34_calls lit lev q rn rc (some r) w (fun v w' => ∃ b, v = .bool b ∧ (b = true ↔ Rsn pre ⟨lit, lev, rs⟩) ∧ Keep None w w') ?_).mono fun e w' ⟨r, he, v, hr, hk⟩ => ⟨v, by rw [he, hr], hk⟩
  unfold V34
  refine alc_at fun b w1 hb hB k1 => ?_
  simp only [add_mk, Nat.add_zero, Nat.zero_add]
  have hql := hq.len
  refine ldC_of (hB.cell 2) (ldI_of (hB.cell 0) (cl_of ok55 (has55 (hq.keep0 k1) hrn lit) fun e w2 ⟨he, k2⟩ => ⟨_, he, ?_⟩))
  have k02 := k1.then0 k2
  have hB2 := hB.keep0 k2
  by_cases hh : fl lit = true ∧ lit ∈ rs
  · have e1 : (fl lit && decide (lit ∈ rs)) = true := by rw [hh.1, decide_eq_true hh.2]; rfl
    rw [e1]
    refine gd_t rfl (ldC_of (hB2.cell 2) (gd_t rfl (cl_of ok39 (sound39 (hq.keep0 k02) hrn) fun e w3 ⟨he, k3⟩ => ⟨_, he, ?_⟩)))
    have k03 := k02.then0 k3
    have hB3 := hB2.keep0 k3
    cases hs : rs.all fl with
    | false => exact pif_t rfl ⟨false, rfl, ⟨(fun h => by cases h), fun h => by have := h.1; simp only [] at this; rw [hs] at this; cases this⟩, k03⟩
    | true =>
      refine pif_f rfl (ldC_of (hB3.cell 2) ?_)
      refine lp_of (fun s w' => ∃ j : Nat, s.1 = (j : Int) ∧ j ≤ rn ∧ (∀ l ∈ rs.take j, l ≠ lit → ∃ y ∈ pre, y.lit = neg l) ∧ Keep None w w' ∧ Keep None w1 w') (fun s _ => (rn - s.1).toNat) ⟨0, rfl, Nat.zero_le _, by simp, k03, k2.then0 k3⟩ ?_
      rintro ⟨j', ⟨⟩⟩ w4 ⟨j, rfl, hj, hall, k4, k14⟩
      simp only []
      refine pif_of (fun hlt => ?_) fun hge => ?_
      · have hlt : j < rn := by simpa using hlt
        rw [wrap_nat j (by omega)]
        refine (hq.keep0 k4).ix hlt fun a l hl ha => ldI_of ha (ldI_of ((hB.keep0 k14).cell 0) ?_)
        have nxt : (l ≠ lit → ∃ y ∈ pre, y.lit = neg l) → ∀ l' ∈ rs.take (j + 1), l' ≠ lit → ∃ y ∈ pre, y.lit = neg l' := fun h l' hl' hne => by
          rw [take_snoc hl, List.mem_append, List.mem_singleton] at hl'
          rcases hl' with hl' | rfl
          · exact hall l' hl' hne
          · exact h hne
        by_cases hne : l = lit
        · have e0 : (l != lit) = false := by simp [hne]
          exact gd_f e0 (pif_f (by rw [e0]; rfl) ⟨⟨j + 1, rfl, hlt, nxt fun h => absurd hne h, k4, k14⟩, by omega⟩)
        · have e0 : (l != lit) = true := by simpa using hne
          refine gd_t e0 (lk_of u52 Try.underlying3 z3 (hM.keep0 k4) ?_)
          show pif (cond (l != lit) (mget (neg l) f == 0) false) _ _
          rw [e0]
          rcases hK (neg l) with ⟨e, hy⟩ | ⟨e, hn⟩
          · rw [e]
            exact pif_f rfl ⟨⟨j + 1, rfl, hlt, nxt fun _ => hy, k4, k14⟩, by omega⟩
          · rw [e]
            refine pif_t rfl ⟨false, rfl, ⟨(fun h => by cases h), fun h => ?_⟩, k4⟩
            obtain ⟨y, hy, hyl⟩ := h.2.2 l (List.mem_of_getElem? hl) hne
            exact absurd hyl (hn y hy)
      · have hge : j = rn := by simp at hge; omega
        subst hge
        rw [← hql, List.take_length] at hall
        exact ⟨true, rfl, ⟨fun _ => ⟨hs, hh.2, hall⟩, fun _ => rfl⟩, k4⟩
  · have e1 : (fl lit && decide (lit ∈ rs)) = false := by
      rw [Bool.and_eq_false_iff, decide_eq_false_iff_not]
      by_cases h : fl lit = true
      · exact Or.inr fun hm => hh ⟨h, hm⟩
      · exact Or.inl (by simpa using h)
    rw [e1]
    refine gd_f rfl (gd_f rfl (pif_t rfl ⟨false, rfl, ⟨(fun h => by cases h), fun h => absurd ⟨?_, h.2.1⟩ hh⟩, k02⟩))
    exact (List.all_eq_true.1 h.1) lit h.2.1
theorem gdV {b : Bool} {k : IntKind} {a : Addr} {x : Int} {K : Int → World → Prop} (h : w.cell? a = some (.int k x)) (hk : ∀ y, (b = true → y = x) → K y w) : gd (α := Int) b (fun k' => ldI k w a fun y => k' y w) 0 w K := by
  cases b with
  | true => exact gd_t rfl (ldI_of h (hk x fun _ => rfl))
  | false => exact gd_f rfl (hk 0 fun h => by cases h)
theorem gdVC {b : Bool} {a : Addr} {q : Option Addr} {rn rc : Nat} {K : Option Addr × Nat × Nat → World → Prop} (h : w.cell? a = some (.slice q rn rc)) (hk : ∀ y, (b = true → y = (q, rn, rc)) → K y w) : gd (α := Option Addr × Nat × Nat) b (fun k' => ldC w a fun x n c => k' (x, n, c) w) (none, 0, 0) w K := by
  cases b with
  | true => exact gd_t rfl (ldC_of h (hk _ fun _ => rfl))
  | false => exact gd_f rfl (hk _ fun h => by cases h)
theorem Kn.add {f : List (Int × Int)} {pre : List En} (h : Kn f pre) {x : En} (hno : ∀ y ∈ pre, y.lit ≠ x.lit) : Kn (mput x.lit (IntKind.wrap .i64 (mget x.lit f + 1)) f) (pre ++ [x]) := fun l => by
  have e0 : mget x.lit f = 0 := by
    rcases h x.lit with ⟨_, y, hy, hl⟩ | ⟨e, _⟩
    · exact absurd hl (hno y hy)
    · exact e
  rw [mget_mput, e0]
  by_cases hl : l = x.lit
  · rw [if_pos hl]
    exact Or.inl ⟨by decide +kernel, x, by simp, hl.symm⟩
  · rw [if_neg hl]
    rcases h l with ⟨e, y, hy, hyl⟩ | ⟨e, hn⟩
    · exact Or.inl ⟨e, y, by simp [hy], hyl⟩
    · refine Or.inr ⟨e, fun y hy => ?_⟩
      rw [List.mem_append, List.mem_singleton] at hy
      rcases hy with hy | rfl
      · exact hn y hy
      · exact fun e => hl e.symm
theorem formed10 (h : RdE w p n es) (hn : n ≤ 1099511627776) (hr : ∀ x ∈ es, x.rs.length ≤ 1099511627776) :
    Calls Try.prog 10 #[.slice p n c] w fun e w' => ∃ b, e = .returned (.bool b) ∧ (b = true ↔ Fm es) ∧ Keep None w w' := by
  refine (V10_calls p n c w (fun r w' => ∃ b, r = .bool b ∧ (b = true ↔ Fm es) ∧ Keep None w w') ?_).mono fun e w' ⟨r, he, v, hr, hk⟩ => ⟨v, by rw [he, hr], hk⟩
  unfold V10
  have hl := h.len
  refine mkmap_of fun r w1 hrw hM k1 => ?_
  refine lp_of (fun s w' => ∃ (i : Nat) (f : List (Int × Int)), s.2.1 = (i : Int) ∧ i ≤ n ∧ s.1 = lastLev (es.take i) ∧ 0 ≤ s.1 ∧ s.1 ≤ i ∧ (∀ j x, j < i → es[j]? = some x → Good (es.take j) x) ∧ Keep None w w' ∧ Mp w' r f ∧ Kn f (es.take i)) (fun s _ => (n - s.2.1).toNat)
    ⟨0, [], rfl, Nat.zero_le _, rfl, by simp, by simp, (fun j x hj => by omega), k1, hM, fun l => Or.inr ⟨rfl, fun y hy => by cases hy⟩⟩ ?_
  rintro ⟨a, i', ⟨⟩⟩ w2 ⟨i, f, rfl, hi, ha, ha0, ha1, hall, k2, hM2, hK⟩
  simp only [] at ha ha0 ha1 ⊢
  refine pif_of (fun hlt => ?_) fun hge => ?_
  · have hlt : i < n := by simpa using hlt
    rw [wrap_nat i (by omega)]
    obtain ⟨x, hx⟩ := getE (show i < es.length by omega)
    have hrx := hr x (List.mem_of_getElem? hx)
    refine (h.keep0 k2).ix hx fun ad ⟨q, rn, rc, c0, c1, c2, hq⟩ => ldI_of c0 (ldI_of c1 (ldC_of c2 ?_))
    have hql := hq.len
    refine alc_at fun b w3 hb hB k3 => ?_
    simp only [add_mk, Nat.add_zero, Nat.zero_add]
    refine st_of hB (by simp) rfl fun w4 hB4 k4 _ => ?_
    refine st_of hB4 (by simp) rfl fun w5 hB5 k5 _ => ?_
    refine st_of hB5 (by simp) rfl fun w6 hB6 k6 _ => ?_
    have k26 : Keep None w2 w6 := ((k3.then1 k4 (by omega)).then1 k5 (by omega)).then1 k6 (by omega)
    simp only [List.set_cons_zero, List.set_cons_succ] at hB6
    have k06 := k2.then0 k26
    have hM6 := hM2.keep0 k26
    have hq6 := hq.keep0 k26
    have no : ∀ {w' : World}, Keep None w w' → ¬ Good (es.take i) x → ∃ b, (.bool false : Value) = .bool b ∧ (b = true ↔ Fm es) ∧ Keep None w w' := fun k hg => ⟨false, rfl, ⟨(fun h => by cases h), fun h => absurd (h i x hx) hg⟩, k⟩
    have ew : IntKind.wrap .i64 (a + 1) = a + 1 := by rw [IntKind.wrap_i64]; omega
    rw [ew]
    -- is it a level's first?
    refine gdV (hB6.cell 1) fun y20 h20 => gdV (hB6.cell 1) fun y23 h23 => ?_
    have eF : (cond (cond ((i : Int) == 0) (y20 == 1) false) true (cond (decide ((i : Int) > 0)) (y23 == a + 1) false)) = decide (x.lev = a + 1) := by
      by_cases h0 : i = 0
      · subst h0
        have e0 : a = 0 := by rw [ha]; rfl
        rw [h20 rfl, e0]
        simp [beq_iff_eq]
        rw [Bool.eq_iff_iff]
        simp
      · have e0 : ((i : Int) == 0) = false := by simpa using h0
        have e1 : decide ((i : Int) > 0) = true := decide_eq_true (by omega)
        rw [h23 (by rw [e0, e1]; rfl), e0, e1]
        rw [Bool.eq_iff_iff]
        simp
    rw [eF]
    refine gdV (hB6.cell 1) fun y27 h27 => ?_
    by_cases hlev : x.lev = a + 1 ∨ x.lev = a
    · have eC : (cond (!decide (x.lev = a + 1)) (y27 != a) false) = false := by
        by_cases h1 : x.lev = a + 1
        · simp [h1]
        · have : y27 = x.lev := h27 (by simp [h1])
          have h2 := hlev.resolve_left h1
          simp [h1, this, h2]
      rw [eC]
      refine gd_t rfl (ldI_of (hB6.cell 0) (gd_t rfl (lk_of u52 Try.underlying3 z3 hM6 ?_)))
      by_cases hp1 : ∃ y ∈ es.take i, y.lit = x.lit
      · have e1 := (hK.pos x.lit).2 hp1
        rw [e1]
        refine gd_f rfl (gd_f rfl (gd_f rfl (gd_f rfl (pif_t rfl (no k06 fun h => ?_)))))
        obtain ⟨y, hy, hyl⟩ := hp1
        exact (h.2.1 y hy).1 hyl
      have e1 : decide (mget x.lit f > 0) = false := by
        rw [← Bool.not_eq_true]; exact fun h => hp1 ((hK.pos x.lit).1 h)
      rw [e1]
      refine gd_t rfl (ldI_of (hB6.cell 0) (gd_t rfl (lk_of u52 Try.underlying3 z3 hM6 ?_)))
      by_cases hp2 : ∃ y ∈ es.take i, y.lit = neg x.lit
      · have e2 : decide (mget (IntKind.wrap .i64 (0 - x.lit)) f > 0) = true := (hK.pos (neg x.lit)).2 hp2
        rw [e2]
        refine gd_f rfl (gd_f rfl (pif_t rfl (no k06 fun h => ?_)))
        obtain ⟨y, hy, hyl⟩ := hp2
        exact (h.2.1 y hy).2 hyl
      have e2 : decide (mget (IntKind.wrap .i64 (0 - x.lit)) f > 0) = false := by
        rw [← Bool.not_eq_true]; exact fun h => hp2 ((hK.pos (neg x.lit)).1 h)
      rw [e2]
      refine gd_t rfl (ldI_of (hB6.cell 0) (gd_t rfl (cl_of ok33 (fl33 x.lit) fun e w7 ⟨he, k7⟩ => ⟨_, he, ?_⟩)))
      have k07 := k06.then0 k7
      have hB7 := hB6.keep0 k7
      have hM7 := hM6.keep0 k7
      have hq7 := hq6.keep0 k7
      cases hf : fl x.lit with
      | false => exact pif_t rfl (no k07 fun h => by have := h.1; rw [hf] at this; cases this)
      | true =>
        have hdist : ∀ y ∈ es.take i, y.lit ≠ x.lit ∧ y.lit ≠ neg x.lit := fun y hy => ⟨fun e => hp1 ⟨y, hy, e⟩, fun e => hp2 ⟨y, hy, e⟩⟩
        refine pif_f rfl (ldI_of (hB7.cell 1) (gdVC (hB7.cell 2) fun y53 h53 => ?_))
        have hrl : x.rs = [] ↔ rn = 0 := by rw [← List.length_eq_zero_iff, hql]
        have hlo : x.lev = lastLev (es.take i) ∨ x.lev = IntKind.wrap .i64 (lastLev (es.take i) + 1) := by
          rw [← ha, ew]; exact hlev.symm
        by_cases hD : x.lev = 0 ∨ (x.lev ≠ a ↔ x.rs = [])
        · have eD : (cond (decide (x.lev > 0)) (!((decide (x.lev = a + 1)) == ((y53.2.1 : Int) == 0))) false) = false := by
            by_cases hp : x.lev > 0
            · have hy := h53 (decide_eq_true hp)
              rw [hy, decide_eq_true hp]
              have hd := hD.resolve_left (by omega)
              rw [hrl] at hd
              simp only [cond_true, Bool.not_eq_false', beq_iff_eq]
              rw [Bool.eq_iff_iff, decide_eq_true_eq, beq_iff_eq]
              omega
            · rw [decide_eq_false hp]; rfl
          rw [eD]
          refine gd_t rfl (ldC_of (hB7.cell 2) ?_)
          have hLev : Lev (es.take i) x := ⟨hlo, by rw [← ha]; exact hD⟩
          -- what comes last
          have last : (x.rs ≠ [] → Rsn (es.take i) x) → ∀ {w8 : World}, Keep None w7 w8 → 
              ldI .i64 w8 ⟨b, 0, none⟩ fun x68 => ∃ x69 : Int, ∃ w24 : World, (Instr.lookup 52 (.map (some r)) (.int .i64 x68) false).run Try.prog w8 = .ok (.int .i64 x69) w24 ∧
              ∃ w25 : World, (Instr.mapUpdate 52 (.map (some r)) (.int .i64 x68) (.int .i64 (IntKind.wrap .i64 (x69 + 1)))).run Try.prog w24 = .ok () w25 ∧
              ((∃ (j : Nat) (f : List (Int × Int)), ((i + 1 : Nat) : Int) = (j : Int) ∧ j ≤ n ∧ x.lev = lastLev (es.take j) ∧ 0 ≤ x.lev ∧ x.lev ≤ j ∧ (∀ j' x, j' < j → es[j']? = some x → Good (es.take j') x) ∧ Keep None w w25 ∧ Mp w25 r f ∧ Kn f (es.take j)) ∧ ((n : Int) - ((i + 1 : Nat) : Int)).toNat < ((n : Int) - (i : Int)).toNat) := by
            intro hh w8 k8
            refine ldI_of ((hB7.keep0 k8).cell 0) (lk_of u52 Try.underlying3 z3 (hM7.keep0 k8) (up_of u52 Try.underlying3 (hM7.keep0 k8) fun w9 hM9 k9 _ => ⟨⟨i + 1, _, rfl, hlt, (lastLev_snoc hx).symm, by omega, by omega, fun j y hj hy => ?_, ?_, hM9, ?_⟩, by omega⟩))
            · by_cases hji : j = i
              · subst hji
                rw [hx] at hy
                injection hy with hy
                subst hy
                exact ⟨hf, hdist, hLev, hh⟩
              · exact hall j y (by omega) hy
            · exact (k07.then0 k8).trans k9 fun j hj hh => by have : j = r := hh; omega
            · rw [take_snocE hx]
              exact hK.add fun y hy => (hdist y hy).1
          by_cases hr0 : 0 < rn
          · have hne : x.rs ≠ [] := fun e => by have := hrl.1 e; omega
            have e4 : ((!false) && (decide ((rn : Int) > 0))) = true := by rw [decide_eq_true (by omega)]; rfl
            refine gd_t e4 (ldI_of (hB7.cell 0) (ldI_of (hB7.cell 1) (ldC_of (hB7.cell 2) (gd_t e4 ?_))))
            refine cl_of ok34 (reason34 (lit := x.lit) (lev := x.lev) (q := q) (rn := rn) (rc := rc) (pre := es.take i) hq7 (by omega) hM7 hK) fun e w8 ⟨v, he, hv, k8⟩ => ⟨v, he, ?_⟩
            have e5 : decide ((rn : Int) > 0) = true := decide_eq_true (by omega)
            cases v with
            | false => exact pif_t (by rw [e5]; rfl) (no (k07.then0 k8) fun h => by have := hv.2 (h.2.2.2 hne); cases this)
            | true => exact pif_f (by rw [e5]; rfl) (last (fun _ => hv.1 rfl) k8)
          · have hnil : x.rs = [] := hrl.2 (by omega)
            have e5 : decide ((rn : Int) > 0) = false := decide_eq_false (by omega)
            have e4 : ((!false) && (decide ((rn : Int) > 0))) = false := by rw [e5]; rfl
            exact gd_f e4 (gd_f e4 (pif_f (by rw [e5]; rfl) (last (fun h => absurd hnil h) (Keep.refl _ _))))
        · have eD : (cond (decide (x.lev > 0)) (!((decide (x.lev = a + 1)) == ((y53.2.1 : Int) == 0))) false) = true := by
            have hp : x.lev > 0 := by
              have : ¬ x.lev = 0 := fun e => hD (Or.inl e)
              omega
            have hy := h53 (decide_eq_true hp)
            have hd : ¬ (x.lev ≠ a ↔ rn = 0) := fun e => hD (Or.inr (by rw [hrl]; exact e))
            rw [hy, decide_eq_true hp]
            simp only [cond_true, Bool.not_eq_true', beq_eq_false_iff_ne, ne_eq]
            rw [Bool.eq_iff_iff, decide_eq_true_eq, beq_iff_eq]
            omega
          rw [eD]
          refine gd_f rfl (gd_f rfl (gd_f rfl (pif_t rfl (no k07 fun h => ?_))))
          have := h.2.2.1.2
          rw [← ha] at this
          exact hD this
    · have eC : (cond (!decide (x.lev = a + 1)) (y27 != a) false) = true := by
        have h1 : ¬ x.lev = a + 1 := fun e => hlev (Or.inl e)
        have h2 : ¬ x.lev = a := fun e => hlev (Or.inr e)
        have : y27 = x.lev := h27 (by simp [h1])
        simp [h1, this, h2]
      rw [eC]
      refine gd_f rfl (gd_f rfl (gd_f rfl (gd_f rfl (gd_f rfl (gd_f rfl (pif_t rfl (no k06 fun h => ?_)))))))
      have := h.2.2.1.1
      rw [← ha, ew] at this
      exact hlev this.symm
  · have hge : i = n := by simp at hge; omega
    subst hge
    exact ⟨true, rfl, ⟨fun _ i x hx => hall i x (by have := (List.getElem?_eq_some_iff.1 hx).1; omega) hx, fun _ => rfl⟩, k2⟩
end
end Go.Proofs.Ytlbpllpomdjooaa.Learn
