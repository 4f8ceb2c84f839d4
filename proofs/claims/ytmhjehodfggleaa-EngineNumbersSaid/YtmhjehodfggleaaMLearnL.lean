/- What makes a trail: the program's Formed. -/
import Derived.Test.YtmhjehodfggleaaMLearnB
set_option linter.unusedVariables false
set_option linter.unusedSimpArgs false
set_option maxRecDepth 100000
namespace Go.Proofs.Ytmhjehodfggleaa.Learn
open Go Go.Proofs.Ytmhjehodfggleaa.Vc Go.Proofs.Ytmhjehodfggleaa.T
open Go.Proofs.Ytmhjehodfggleaa.Apart (RdL own_rdl wrap_nat getE own_len copy same take_snoc Sl sv)

theorem u52 : Try.prog.underlying 125 = some (.map 3 3) := Try.underlying125
theorem z3 : (Try.prog.info? 3).map (·.zero) = some (some (.int .i64 0)) := by kernel_rfl
/-- the literals of some entries, as the map knows them -/
def Kn (f : List (Int × Int)) (pre : List En) : Prop := ∀ l, (mget l f = 1 ∧ ∃ y ∈ pre, y.lit = l) ∨ (mget l f = 0 ∧ ∀ y ∈ pre, y.lit ≠ l)
theorem Kn.pos {f : List (Int × Int)} {pre : List En} (h : Kn f pre) (l : Int) : decide (mget l f > 0) = true ↔ ∃ y ∈ pre, y.lit = l := by
  rcases h l with ⟨e, hy⟩ | ⟨e, hn⟩
  · rw [e]; exact ⟨fun _ => hy, fun _ => rfl⟩
  · rw [e]; exact ⟨fun h => absurd h (by decide), fun ⟨y, hy, hl⟩ => absurd hl (hn y hy)⟩
section
variable {w w' : World} {p : Option Addr} {n c : Nat} {es : List En}
theorem reason34 {lit lev : Int} {q : Option Addr} {rn rc r : Nat} {rs : List Int} {f : List (Int × Int)} {pre : List En} (hq : RdL w q rn rs) (hrn : rn ≤ 1099511627776) (hM : Mp w r f) (hK : Kn f pre) :
    Calls Try.prog 98 #[.agg #[I lit, I lev, .slice q rn rc], .map (some r)] w fun e w' => ∃ b, e = .returned (.bool b) ∧ (b = true ↔ Rsn pre ⟨lit, lev, rs⟩) ∧ Keep None w w' := by
  refine (V98_calls lit lev q rn rc (some r) w (fun v w' => ∃ b, v = .bool b ∧ (b = true ↔ Rsn pre ⟨lit, lev, rs⟩) ∧ Keep None w w') ?_).mono fun e w' ⟨r, he, v, hr, hk⟩ => ⟨v, by rw [he, hr], hk⟩
  unfold V98
  refine alc_at fun b w1 hb hB k1 => ?_
  simp only [add_mk, Nat.add_zero, Nat.zero_add]
  have hql := hq.len
  refine ldC_of (hB.cell 2) (ldI_of (hB.cell 0) (cl_of ok104 (has55 (hq.keep0 k1) hrn lit) fun e w2 ⟨he, k2⟩ => ⟨_, he, ?_⟩))
  have k02 := k1.then0 k2
  have hB2 := hB.keep0 k2
  by_cases hh : fl lit = true ∧ lit ∈ rs
  · have e1 : (fl lit && decide (lit ∈ rs)) = true := by rw [hh.1, decide_eq_true hh.2]; rfl
    rw [e1]
    refine gd_t rfl (ldC_of (hB2.cell 2) (gd_t rfl (cl_of ok50 (sound39 (hq.keep0 k02) hrn) fun e w3 ⟨he, k3⟩ => ⟨_, he, ?_⟩)))
    have k03 := k02.then0 k3
    have hB3 := hB2.keep0 k3
    cases hs : rs.all fl with
    | false => exact pif_t rfl ⟨false, rfl, ⟨(fun h => by cases h), fun h => by have := h.1; simp only [] at this; rw [hs] at this; cases this⟩, k03⟩
    | true =>
      refine pif_f rfl (ldC_of (hB3.cell 2) ?_)
      refine lp_of (fun s w' => ∃ j : Nat, s.1 = (j : Int) ∧ j ≤ rn ∧ (∀ l ∈ rs.take j, l ≠ lit → ∃ y ∈ pre, y.lit = neg l) ∧ Keep None w w' ∧ Keep None w1 w') (fun s _ => (rn - s.1).toNat) ⟨0, rfl, Nat.zero_le _, by simp, k03, k2.then0 k3⟩ ?_
      rintro ⟨j', ⟨⟩⟩ w4 ⟨j, rfl, hj, hall, k4, k14⟩
      simp only []
      refine pif_of (fun hlt => ?_) fun hge => ?_
      · have hlt : j < rn := by simpa using hlt
        rw [wrap_nat j (by omega)]
        refine (hq.keep0 k4).ix hlt fun a l hl ha => ldI_of ha (ldI_of ((hB.keep0 k14).cell 0) ?_)
        have nxt : (l ≠ lit → ∃ y ∈ pre, y.lit = neg l) → ∀ l' ∈ rs.take (j + 1), l' ≠ lit → ∃ y ∈ pre, y.lit = neg l' := fun h l' hl' hne => by
          rw [take_snoc hl, List.mem_append, List.mem_singleton] at hl'
          rcases hl' with hl' | rfl
          · exact hall l' hl' hne
          · exact h hne
        by_cases hne : l = lit
        · have e0 : (l != lit) = false := by simp [hne]
          exact gd_f e0 (pif_f (by rw [e0]; rfl) ⟨⟨j + 1, rfl, hlt, nxt fun h => absurd hne h, k4, k14⟩, by omega⟩)
        · have e0 : (l != lit) = true := by simpa using hne
          refine gd_t e0 (lk_of u52 Try.underlying3 z3 (hM.keep0 k4) ?_)
          show pif (cond (l != lit) (mget (neg l) f == 0) false) _ _
          rw [e0]
          rcases hK (neg l) with ⟨e, hy⟩ | ⟨e, hn⟩
          · rw [e]
            exact pif_f rfl ⟨⟨j + 1, rfl, hlt, nxt fun _ => hy, k4, k14⟩, by omega⟩
          · rw [e]
            refine pif_t rfl ⟨false, rfl, ⟨(fun h => by cases h), fun h => ?_⟩, k4⟩
            obtain ⟨y, hy, hyl⟩ := h.2.2 l (List.mem_of_getElem? hl) hne
            exact absurd hyl (hn y hy)
      · have hge : j = rn := by simp at hge; omega
        subst hge
        rw [← hql, List.take_length] at hall
        exact ⟨true, rfl, ⟨fun _ => ⟨hs, hh.2, hall⟩, fun _ => rfl⟩, k4⟩
  · have e1 : (fl lit && decide (lit ∈ rs)) = false := by
      rw [Bool.and_eq_false_iff, decide_eq_false_iff_not]
      by_cases h : fl lit = true
      · exact Or.inr fun hm => hh ⟨h, hm⟩
      · exact Or.inl (by simpa using h)
    rw [e1]
    refine gd_f rfl (gd_f rfl (pif_t rfl ⟨false, rfl, ⟨(fun h => by cases h), fun h => absurd ⟨?_, h.2.1⟩ hh⟩, k02⟩))
    exact (List.all_eq_true.1 h.1) lit h.2.1
theorem gdV {b : Bool} {k : IntKind} {a : Addr} {x : Int} {K : Int → World → Prop} (h : w.cell? a = some (.int k x)) (hk : ∀ y, (b = true → y = x) → K y w) : gd (α := Int) b (fun k' => ldI k w a fun y => k' y w) 0 w K := by
  cases b with
  | true => exact gd_t rfl (ldI_of h (hk x fun _ => rfl))
  | false => exact gd_f rfl (hk 0 fun h => by cases h)
theorem gdVC {b : Bool} {a : Addr} {q : Option Addr} {rn rc : Nat} {K : Option Addr × Nat × Nat → World → Prop} (h : w.cell? a = some (.slice q rn rc)) (hk : ∀ y, (b = true → y = (q, rn, rc)) → K y w) : gd (α := Option Addr × Nat × Nat) b (fun k' => ldC w a fun x n c => k' (x, n, c) w) (none, 0, 0) w K := by
  cases b with
  | true => exact gd_t rfl (ldC_of h (hk _ fun _ => rfl))
  | false => exact gd_f rfl (hk _ fun h => by cases h)
theorem Kn.add {f : List (Int × Int)} {pre : List En} (h : Kn f pre) {x : En} (hno : ∀ y ∈ pre, y.lit ≠ x.lit) : Kn (mput x.lit (IntKind.wrap .i64 (mget x.lit f + 1)) f) (pre ++ [x]) := fun l => by
  have e0 : mget x.lit f = 0 := by
    rcases h x.lit with ⟨_, y, hy, hl⟩ | ⟨e, _⟩
    · exact absurd hl (hno y hy)
    · exact e
  rw [mget_mput, e0]
  by_cases hl : l = x.lit
  · rw [if_pos hl]
    exact Or.inl ⟨by decide +kernel, x, by simp, hl.symm⟩
  · rw [if_neg hl]
    rcases h l with ⟨e, y, hy, hyl⟩ | ⟨e, hn⟩
    · exact Or.inl ⟨e, y, by simp [hy], hyl⟩
    · refine Or.inr ⟨e, fun y hy => ?_⟩
      rw [List.mem_append, List.mem_singleton] at hy
      rcases hy with hy | rfl
      · exact hn y hy
      · exact fun e => hl e.symm
theorem formed10 (h : RdE w p n es) (hn : n ≤ 1099511627776) (hr : ∀ x ∈ es, x.rs.length ≤ 1099511627776) :
    Calls Try.prog 87 #[.slice p n c] w fun e w' => ∃ b, e = .returned (.bool b) ∧ (b = true ↔ Fm es) ∧ Keep None w w' := by
  refine (V87_calls p n c w (fun r w' => ∃ b, r = .bool b ∧ (b = true ↔ Fm es) ∧ Keep None w w') ?_).mono fun e w' ⟨r, he, v, hr, hk⟩ => ⟨v, by rw [he, hr], hk⟩
  unfold V87
  have hl := h.len
  refine mkmap_of fun r w1 hrw hM k1 => ?_
  refine lp_of (fun s w' => ∃ (i : Nat) (f : List (Int × Int)), s.2.1 = (i : Int) ∧ i ≤ n ∧ s.1 = lastLev (es.take i) ∧ 0 ≤ s.1 ∧ s.1 ≤ i ∧ (∀ j x, j < i → es[j]? = some x → Good (es.take j) x) ∧ Keep None w w' ∧ Mp w' r f ∧ Kn f (es.take i)) (fun s _ => (n - s.2.1).toNat)
    ⟨0, [], rfl, Nat.zero_le _, rfl, by simp, by simp, (fun j x hj => by omega), k1, hM, fun l => Or.inr ⟨rfl, fun y hy => by cases hy⟩⟩ ?_
  rintro ⟨a, i', ⟨⟩⟩ w2 ⟨i, f, rfl, hi, ha, ha0, ha1, hall, k2, hM2, hK⟩
  simp only [] at ha ha0 ha1 ⊢
  refine pif_of (fun hlt => ?_) fun hge => ?_
  · have hlt : i < n := by simpa using hlt
    rw [wrap_nat i (by omega)]
    obtain ⟨x, hx⟩ := getE (show i < es.length by omega)
    have hrx := hr x (List.mem_of_getElem? hx)
    refine (h.keep0 k2).ix hx fun ad ⟨q, rn, rc, c0, c1, c2, hq⟩ => ldI_of c0 (ldI_of c1 (ldC_of c2 ?_))
    have hql := hq.len
    refine alc_at fun b w3 hb hB k3 => ?_
    simp only [add_mk, Nat.add_zero, Nat.zero_add]
    refine st_of hB (by simp) rfl fun w4 hB4 k4 _ => ?_
    refine st_of hB4 (by simp) rfl fun w5 hB5 k5 _ => ?_
    refine st_of hB5 (by simp) rfl fun w6 hB6 k6 _ => ?_
    have k26 : Keep None w2 w6 := ((k3.then1 k4 (by omega)).then1 k5 (by omega)).then1 k6 (by omega)
    simp only [List.set_cons_zero, List.set_cons_succ] at hB6
    have k06 := k2.then0 k26
    have hM6 := hM2.keep0 k26
    have hq6 := hq.keep0 k26
    have no : ∀ {w' : World}, Keep None w w' → ¬ Good (es.take i) x → ∃ b, (.bool false : Value) = .bool b ∧ (b = true ↔ Fm es) ∧ Keep None w w' := fun k hg => ⟨false, rfl, ⟨(fun h => by cases h), fun h => absurd (h i x hx) hg⟩, k⟩
    have ew : IntKind.wrap .i64 (a + 1) = a + 1 := by rw [IntKind.wrap_i64]; omega
    rw [ew]
    -- is it a level's first?
    refine gdV (hB6.cell 1) fun y20 h20 => gdV (hB6.cell 1) fun y23 h23 => ?_
    have eF : (cond (cond ((i : Int) == 0) (y20 == 1) false) true (cond (decide ((i : Int) > 0)) (y23 == a + 1) false)) = decide (x.lev = a + 1) := by
      by_cases h0 : i = 0
      · subst h0
        have e0 : a = 0 := by rw [ha]; rfl
        rw [h20 rfl, e0]
        simp [beq_iff_eq]
        rw [Bool.eq_iff_iff]
        simp
      · have e0 : ((i : Int) == 0) = false := by simpa using h0
        have e1 : decide ((i : Int) > 0) = true := decide_eq_true (by omega)
        rw [h23 (by rw [e0, e1]; rfl), e0, e1]
        rw [Bool.eq_iff_iff]
        simp
    rw [eF]
    refine gdV (hB6.cell 1) fun y27 h27 => ?_
    by_cases hlev : x.lev = a + 1 ∨ x.lev = a
    · have eC : (cond (!decide (x.lev = a + 1)) (y27 != a) false) = false := by
        by_cases h1 : x.lev = a + 1
        · simp [h1]
        · have : y27 = x.lev := h27 (by simp [h1])
          have h2 := hlev.resolve_left h1
          simp [h1, this, h2]
      rw [eC]
      refine gd_t rfl (ldI_of (hB6.cell 0) (gd_t rfl (lk_of u52 Try.underlying3 z3 hM6 ?_)))
      by_cases hp1 : ∃ y ∈ es.take i, y.lit = x.lit
      · have e1 := (hK.pos x.lit).2 hp1
        rw [e1]
        refine gd_f rfl (gd_f rfl (gd_f rfl (gd_f rfl (pif_t rfl (no k06 fun h => ?_)))))
        obtain ⟨y, hy, hyl⟩ := hp1
        exact (h.2.1 y hy).1 hyl
      have e1 : decide (mget x.lit f > 0) = false := by
        rw [← Bool.not_eq_true]; exact fun h => hp1 ((hK.pos x.lit).1 h)
      rw [e1]
      refine gd_t rfl (ldI_of (hB6.cell 0) (gd_t rfl (lk_of u52 Try.underlying3 z3 hM6 ?_)))
      by_cases hp2 : ∃ y ∈ es.take i, y.lit = neg x.lit
      · have e2 : decide (mget (IntKind.wrap .i64 (0 - x.lit)) f > 0) = true := (hK.pos (neg x.lit)).2 hp2
        rw [e2]
        refine gd_f rfl (gd_f rfl (pif_t rfl (no k06 fun h => ?_)))
        obtain ⟨y, hy, hyl⟩ := hp2
        exact (h.2.1 y hy).2 hyl
      have e2 : decide (mget (IntKind.wrap .i64 (0 - x.lit)) f > 0) = false := by
        rw [← Bool.not_eq_true]; exact fun h => hp2 ((hK.pos (neg x.lit)).1 h)
      rw [e2]
      refine gd_t rfl (ldI_of (hB6.cell 0) (gd_t rfl (cl_of ok29 (fl33 x.lit) fun e w7 ⟨he, k7⟩ => ⟨_, he, ?_⟩)))
      have k07 := k06.then0 k7
      have hB7 := hB6.keep0 k7
      have hM7 := hM6.keep0 k7
      have hq7 := hq6.keep0 k7
      cases hf : fl x.lit with
      | false => exact pif_t rfl (no k07 fun h => by have := h.1; rw [hf] at this; cases this)
      | true =>
        have hdist : ∀ y ∈ es.take i, y.lit ≠ x.lit ∧ y.lit ≠ neg x.lit := fun y hy => ⟨fun e => hp1 ⟨y, hy, e⟩, fun e => hp2 ⟨y, hy, e⟩⟩
        refine pif_f rfl (ldI_of (hB7.cell 1) (gdVC (hB7.cell 2) fun y53 h53 => ?_))
        have hrl : x.rs = [] ↔ rn = 0 := by rw [← List.length_eq_zero_iff, hql]
        have hlo : x.lev = lastLev (es.take i) ∨ x.lev = IntKind.wrap .i64 (lastLev (es.take i) + 1) := by
          rw [← ha, ew]; exact hlev.symm
        by_cases hD : x.lev = 0 ∨ (x.lev ≠ a ↔ x.rs = [])
        · have eD : (cond (decide (x.lev > 0)) (!((decide (x.lev = a + 1)) == ((y53.2.1 : Int) == 0))) false) = false := by
            by_cases hp : x.lev > 0
            · have hy := h53 (decide_eq_true hp)
              rw [hy, decide_eq_true hp]
              have hd := hD.resolve_left (by omega)
              rw [hrl] at hd
              simp only [cond_true, Bool.not_eq_false', beq_iff_eq]
              rw [Bool.eq_iff_iff, decide_eq_true_eq, beq_iff_eq]
              omega
            · rw [decide_eq_false hp]; rfl
          rw [eD]
          refine gd_t rfl (ldC_of (hB7.cell 2) ?_)
          have hLev : Lev (es.take i) x := ⟨hlo, by rw [← ha]; exact hD⟩
          -- what comes last
          have last : (x.rs ≠ [] → Rsn (es.take i) x) → ∀ {w8 : World}, Keep None w7 w8 → 
              ldI .i64 w8 ⟨b, 0, none⟩ fun x68 => ∃ x69 : Int, ∃ w24 : World, (Instr.lookup 125 (.map (some r)) (.int .i64 x68) false).run Try.prog w8 = .ok (.int .i64 x69) w24 ∧
              ∃ w25 : World, (Instr.mapUpdate 125 (.map (some r)) (.int .i64 x68) (.int .i64 (IntKind.wrap .i64 (x69 + 1)))).run Try.prog w24 = .ok () w25 ∧
              ((∃ (j : Nat) (f : List (Int × Int)), ((i + 1 : Nat) : Int) = (j : Int) ∧ j ≤ n ∧ x.lev = lastLev (es.take j) ∧ 0 ≤ x.lev ∧ x.lev ≤ j ∧ (∀ j' x, j' < j → es[j']? = some x → Good (es.take j') x) ∧ Keep None w w25 ∧ Mp w25 r f ∧ Kn f (es.take j)) ∧ ((n : Int) - ((i + 1 : Nat) : Int)).toNat < ((n : Int) - (i : Int)).toNat) := by
            intro hh w8 k8
            refine ldI_of ((hB7.keep0 k8).cell 0) (lk_of u52 Try.underlying3 z3 (hM7.keep0 k8) (up_of u52 Try.underlying3 (hM7.keep0 k8) fun w9 hM9 k9 _ => ⟨⟨i + 1, _, rfl, hlt, (lastLev_snoc hx).symm, by omega, by omega, fun j y hj hy => ?_, ?_, hM9, ?_⟩, by omega⟩))
            · by_cases hji : j = i
              · subst hji
                rw [hx] at hy
                injection hy with hy
                subst hy
                exact ⟨hf, hdist, hLev, hh⟩
              · exact hall j y (by omega) hy
            · exact (k07.then0 k8).trans k9 fun j hj hh => by have : j = r := hh; omega
            · rw [take_snocE hx]
              exact hK.add fun y hy => (hdist y hy).1
          by_cases hr0 : 0 < rn
          · have hne : x.rs ≠ [] := fun e => by have := hrl.1 e; omega
            have e4 : ((!false) && (decide ((rn : Int) > 0))) = true := by rw [decide_eq_true (by omega)]; rfl
            refine gd_t e4 (ldI_of (hB7.cell 0) (ldI_of (hB7.cell 1) (ldC_of (hB7.cell 2) (gd_t e4 ?_))))
            refine cl_of ok98 (reason34 (lit := x.lit) (lev := x.lev) (q := q) (rn := rn) (rc := rc) (pre := es.take i) hq7 (by omega) hM7 hK) fun e w8 ⟨v, he, hv, k8⟩ => ⟨v, he, ?_⟩
            have e5 : decide ((rn : Int) > 0) = true := decide_eq_true (by omega)
            cases v with
            | false => exact pif_t (by rw [e5]; rfl) (no (k07.then0 k8) fun h => by have := hv.2 (h.2.2.2 hne); cases this)
            | true => exact pif_f (by rw [e5]; rfl) (last (fun _ => hv.1 rfl) k8)
          · have hnil : x.rs = [] := hrl.2 (by omega)
            have e5 : decide ((rn : Int) > 0) = false := decide_eq_false (by omega)
            have e4 : ((!false) && (decide ((rn : Int) > 0))) = false := by rw [e5]; rfl
            exact gd_f e4 (gd_f e4 (pif_f (by rw [e5]; rfl) (last (fun h => absurd hnil h) (Keep.refl _ _))))
        · have eD : (cond (decide (x.lev > 0)) (!((decide (x.lev = a + 1)) == ((y53.2.1 : Int) == 0))) false) = true := by
            have hp : x.lev > 0 := by
              have : ¬ x.lev = 0 := fun e => hD (Or.inl e)
              omega
            have hy := h53 (decide_eq_true hp)
            have hd : ¬ (x.lev ≠ a ↔ rn = 0) := fun e => hD (Or.inr (by rw [hrl]; exact e))
            rw [hy, decide_eq_true hp]
            simp only [cond_true, Bool.not_eq_true', beq_eq_false_iff_ne, ne_eq]
            rw [Bool.eq_iff_iff, decide_eq_true_eq, beq_iff_eq]
            omega
          rw [eD]
          refine gd_f rfl (gd_f rfl (gd_f rfl (pif_t rfl (no k07 fun h => ?_))))
          have := h.2.2.1.2
          rw [← ha] at this
          exact hD this
    · have eC : (cond (!decide (x.lev = a + 1)) (y27 != a) false) = true := by
        have h1 : ¬ x.lev = a + 1 := fun e => hlev (Or.inl e)
        have h2 : ¬ x.lev = a := fun e => hlev (Or.inr e)
        have : y27 = x.lev := h27 (by simp [h1])
        simp [h1, this, h2]
      rw [eC]
      refine gd_f rfl (gd_f rfl (gd_f rfl (gd_f rfl (gd_f rfl (gd_f rfl (pif_t rfl (no k06 fun h => ?_)))))))
      have := h.2.2.1.1
      rw [← ha, ew] at this
      exact hlev this.symm
  · have hge : i = n := by simp at hge; omega
    subst hge
    exact ⟨true, rfl, ⟨fun _ i x hx => hall i x (by have := (List.getElem?_eq_some_iff.1 hx).1; omega) hx, fun _ => rfl⟩, k2⟩
end
end Go.Proofs.Ytmhjehodfggleaa.Learn

/- Levels: where literals became false, how many levels a clause has. -/
set_option linter.unusedVariables false
set_option linter.unusedSimpArgs false
set_option maxRecDepth 100000
namespace Go.Proofs.Ytmhjehodfggleaa.Learn
open Go Go.Proofs.Ytmhjehodfggleaa.Vc Go.Proofs.Ytmhjehodfggleaa.T
open Go.Proofs.Ytmhjehodfggleaa.Apart (RdL own_rdl wrap_nat getE own_len copy same take_snoc Sl sv)

theorem len_of {w : World} {r : Nat} {f : List (Int × Int)} {K : Int → World → Prop} (h : Mp w r f) (hk : K f.length w) :
    ∃ x : Int, ∃ w' : World, (Builtin.len_ #[125] 3 #[.map (some r)]).run Try.prog w = .ok (.int .i64 x) w' ∧ K x w' := by
  obtain ⟨es, clock, hb, he⟩ := h
  refine ⟨f.length, w, ?_, hk⟩
  have hl : es.size = f.length := by
    have := congrArg List.length he
    simpa using this
  simp [Builtin.len_, run_underlying u52, MapKept.run_getObj_map hb, Result.andThen, goInt, hl]
/-- where literals are false, from 1 on -/
def Pm (f : List (Int × Int)) (es : List En) : Prop := ∀ l, (mget l f = 0 ∧ ∀ y ∈ es, neg y.lit ≠ l) ∨ ∃ (i : Nat) (x : En), mget l f = (i : Int) + 1 ∧ es[i]? = some x ∧ neg x.lit = l
section
variable {w w' : World} {p q : Option Addr} {n m c d : Nat} {es : List En} {cs : List Int}
theorem places40 (h : RdE w p n es) (hn : n ≤ 1099511627776) : Calls Try.prog 71 #[.slice p n c] w fun e w' => ∃ r f, e = .returned (.map (some r)) ∧ w.heap.size ≤ r ∧ Mp w' r f ∧ Pm f es ∧ Keep None w w' := by
  refine (V71_calls p n c w (fun v w' => ∃ r f, v = .map (some r) ∧ w.heap.size ≤ r ∧ Mp w' r f ∧ Pm f es ∧ Keep None w w') ?_).mono fun e w' ⟨v, he, r, f, hv, hk⟩ => ⟨r, f, by rw [he, hv], hk⟩
  unfold V71
  have hl := h.len
  refine mkmap_of fun r w1 hrw hM k1 => ?_
  refine lp_of (fun s w' => ∃ (i : Nat) (f : List (Int × Int)), s.1 = (i : Int) ∧ i ≤ n ∧ Keep None w w' ∧ Mp w' r f ∧ Pm f (es.take i)) (fun s _ => (n - s.1).toNat)
    ⟨0, [], rfl, Nat.zero_le _, k1, hM, fun l => Or.inl ⟨rfl, fun y hy => by cases hy⟩⟩ ?_
  rintro ⟨i', ⟨⟩⟩ w2 ⟨i, f, rfl, hi, k2, hM2, hP⟩
  simp only []
  refine pif_of (fun hlt => ?_) fun hge => ?_
  · have hlt : i < n := by simpa using hlt
    rw [wrap_nat i (by omega)]
    obtain ⟨x, hx⟩ := getE (show i < es.length by omega)
    refine (h.keep0 k2).ix hx fun ad ⟨s, rn, rc, c0, c1, c2, hs⟩ => ldI_of c0 (ldI_of c1 (ldC_of c2 ?_))
    refine alc_at fun b w3 hb hB k3 => ?_
    simp only [add_mk, Nat.add_zero, Nat.zero_add]
    refine st_of hB (by simp) rfl fun w4 hB4 k4 _ => ?_
    refine st_of hB4 (by simp) rfl fun w5 hB5 k5 _ => ?_
    refine st_of hB5 (by simp) rfl fun w6 hB6 k6 _ => ?_
    have k26 : Keep None w2 w6 := ((k3.then1 k4 (by omega)).then1 k5 (by omega)).then1 k6 (by omega)
    simp only [List.set_cons_zero, List.set_cons_succ] at hB6
    have k06 := k2.then0 k26
    refine ldI_of (hB6.cell 0) (up_of u52 Try.underlying3 (hM2.keep0 k26) fun w7 hM7 k7 _ => ⟨⟨i + 1, _, rfl, hlt, k06.trans k7 fun j hj hh => by have : j = r := hh; omega, hM7, fun l => ?_⟩, by omega⟩)
    rw [mget_mput, take_snocE hx]
    by_cases hlx : l = IntKind.wrap .i64 (0 - x.lit)
    · rw [if_pos hlx]
      refine Or.inr ⟨i, x, by omega, ?_, hlx.symm⟩
      rw [List.getElem?_append_right (by simp; omega)]
      have : i - (es.take i).length = 0 := by simp; omega
      rw [this]; rfl
    · rw [if_neg hlx]
      rcases hP l with ⟨e, hno⟩ | ⟨j, y, e, hy, hyl⟩
      · refine Or.inl ⟨e, fun y hy => ?_⟩
        rw [List.mem_append, List.mem_singleton] at hy
        rcases hy with hy | rfl
        · exact hno y hy
        · exact fun e => hlx e.symm
      · have hj := (List.getElem?_eq_some_iff.1 hy).1
        exact Or.inr ⟨j, y, e, by rw [List.getElem?_append_left hj]; exact hy, hyl⟩
  · have hge : i = n := by simp at hge; omega
    subst hge
    rw [← hl, List.take_length] at hP
    exact ⟨r, f, rfl, by omega, hM2, hP, k2⟩
/-- the level of a literal's variable -/
def lev? (es : List En) (l : Int) : Option Int := (es.find? fun x => decide (x.lit = l ∨ x.lit = neg l)).map fun x => x.lev
theorem lev_none {l : Int} (h : ∀ y ∈ es, y.lit ≠ l ∧ y.lit ≠ neg l) : lev? es l = none := by
  unfold lev?
  rw [List.find?_eq_none.2 fun y hy => by have := h y hy; simp [this.1, this.2]]
  rfl
theorem fm_uniq (hF : Fm es) {l : Int} (hl : fl l = true) {i j : Nat} {x y : En} (hx : es[i]? = some x) (hy : es[j]? = some y) (h1 : x.lit = l ∨ x.lit = neg l) (h2 : y.lit = l ∨ y.lit = neg l) : i = j := by
  have aux : ∀ {i j : Nat} {x y : En}, es[i]? = some x → es[j]? = some y → (x.lit = l ∨ x.lit = neg l) → (y.lit = l ∨ y.lit = neg l) → ¬ i < j := by
    intro i j x y hx hy h1 h2 hlt
    have hm : x ∈ es.take j := List.mem_iff_getElem?.2 ⟨i, by rw [List.getElem?_take, if_pos hlt]; exact hx⟩
    have hg := (hF j y hy).2.1 x hm
    have hnn := neg_neg hl
    rcases h1 with h1 | h1 <;> rcases h2 with h2 | h2
    · exact hg.1 (h1.trans h2.symm)
    · exact hg.2 (by rw [h2, hnn]; exact h1)
    · exact hg.2 (by rw [h2]; exact h1)
    · exact hg.1 (h1.trans h2.symm)
  have a1 := aux hx hy h1 h2
  have a2 := aux hy hx h2 h1
  omega
theorem lev_some (hF : Fm es) {l : Int} (hl : fl l = true) {i : Nat} {x : En} (hx : es[i]? = some x) (h1 : x.lit = l ∨ x.lit = neg l) : lev? es l = some x.lev := by
  unfold lev?
  cases hf : es.find? (fun x => decide (x.lit = l ∨ x.lit = neg l)) with
  | none =>
    have := List.find?_eq_none.1 hf x (List.mem_of_getElem? hx)
    exact absurd (by simpa using h1) this
  | some y =>
    have hp := List.find?_some hf
    obtain ⟨j, hj⟩ := List.mem_iff_getElem?.1 (List.mem_of_find?_eq_some hf)
    have e := fm_uniq hF hl hx hj h1 (by simpa using hp)
    subst e
    rw [hx] at hj
    injection hj with hj
    rw [hj]; rfl
def addS (S : List Int) (L : Int) : List Int := if L ∈ S then S else S ++ [L]
def runL (es : List En) : List Int → List Int → Option (List Int)
  | [], S => some S
  | l :: cs, S => match lev? es l with
    | none => none
    | some L => runL es cs (addS S L)
def ansV (o : Option (List Int)) : Value := match o with | none => .tuple #[I 0, I 2] | some S => .tuple #[I S.length, I 0]
theorem drop_cons {R : List Int} {i : Nat} {x : Int} (h : R[i]? = some x) : R.drop i = x :: R.drop (i + 1) := by
  have hi := (List.getElem?_eq_some_iff.1 h).1
  rw [List.drop_eq_getElem_cons hi]
  rw [List.getElem?_eq_getElem hi] at h
  injection h with h
  rw [h]
theorem mput_keys (k v : Int) : ∀ f : List (Int × Int), (mput k v f).map (fun p : Int × Int => p.1) = addS (f.map fun p : Int × Int => p.1) k := by
  intro f
  induction f with
  | nil => simp [mput, addS]
  | cons p f ih =>
    unfold mput
    by_cases h : p.1 = k
    · rw [if_pos h]
      simp [addS, h]
    · rw [if_neg h, List.map_cons, ih, List.map_cons]
      unfold addS
      have h' : ¬ k = p.1 := fun e => h e.symm
      by_cases hm : k ∈ f.map fun p : Int × Int => p.1
      · rw [if_pos hm, if_pos (List.mem_cons_of_mem _ hm)]
      · rw [if_neg hm, if_neg (by rw [List.mem_cons]; exact fun e => e.elim h' hm)]; rfl
end
end Go.Proofs.Ytmhjehodfggleaa.Learn

/- Shrink: what is covered. -/
set_option linter.unusedVariables false
set_option linter.unusedSimpArgs false
set_option maxRecDepth 100000
namespace Go.Proofs.Ytmhjehodfggleaa.Learn
open Go Go.Proofs.Ytmhjehodfggleaa.Vc Go.Proofs.Ytmhjehodfggleaa.T
open Go.Proofs.Ytmhjehodfggleaa.Apart (RdL own_rdl wrap_nat getE own_len copy same take_snoc Sl sv Gro)

theorem clF_of {k : FuncId} {first cap : Array Value} {args : List Value} {w : World} {R : Ending → World → Prop} (h : cl Try.prog k (first.toList ++ args ++ cap.toList) w R) :
    clF Try.prog (.func (.func k) first cap) args w R := ⟨k, first, cap, rfl, h⟩
theorem cell_ne {w : World} {r : Nat} {f : List (Int × Int)} {a : Addr} {v : Value} (hM : Mp w r f) (h : w.cell? a = some v) : a.block ≠ r := by
  rintro rfl
  obtain ⟨es, clock, hb, _⟩ := hM
  simp [World.cell?, hb] at h
section
variable {w w' : World} {p : Option Addr} {n c r : Nat} {es : List En} {cs : List Int} {f : List (Int × Int)}
theorem rdl_keepM (h : RdL w p n cs) (hM : Mp w r f) (hk : Keep (One r) w w') : RdL w' p n cs := ⟨h.len, fun i x hx => by
  obtain ⟨a, e, hc⟩ := h.cell i x hx
  exact ⟨a, e, hk.cell hc (cell_ne hM hc)⟩⟩
theorem rde_keepM (h : RdE w p n es) (hM : Mp w r f) (hk : Keep (One r) w w') : RdE w' p n es := ⟨h.len, fun i x hx => by
  obtain ⟨a, q, rn, rc, e, c0, c1, c2, hr⟩ := h.cell i x hx
  exact ⟨a, q, rn, rc, e, hk.cell c0 (cell_ne hM c0), hk.cell c1 (cell_ne hM c1), hk.cell c2 (cell_ne hM c2), rdl_keepM hr hM hk⟩⟩
theorem blk_ne {b : Nat} {vs : List Value} {t : TypeId} (hB : Blk w b vs t) (hM : Mp w r f) : b ≠ r := by
  rintro rfl
  obtain ⟨es, clock, hb, _⟩ := hM
  unfold Blk at hB
  rw [hB] at hb
  cases hb
theorem blk_keepM {b : Nat} {vs : List Value} {t : TypeId} (hB : Blk w b vs t) (hM : Mp w r f) (hk : Keep (One r) w w') : Blk w' b vs t := hB.keep hk (blk_ne hB hM)
end
/-- what is covered -/
inductive Cov (es : List En) (cl : List Int) : Nat → Prop
  | mk {i : Nat} {x : En} (hx : es[i]? = some x) (hne : x.rs ≠ []) (h : ∀ o ∈ x.rs, o ≠ x.lit → ∀ (a : Nat) (y : En), es[a]? = some y → y.lit = neg o → 0 < y.lev → o ∉ cl → Cov es cl a) : Cov es cl i
/-- the closure's surroundings -/
structure Ev (w : World) (es : List En) (cl : List Int) (b0 b1 b2 b3 b4 r0 r1 r3 : Nat) (p : Option Addr) (n c : Nat) (fa fs : List (Int × Int)) : Prop where
  kn : Blk w b0 [.map (some r0)] 125
  tr : Blk w b1 [.slice p n c] 83
  at' : Blk w b2 [.map (some r1)] 125
  st : Blk w b3 [.map (some r3)] 125
  fn : Blk w b4 [.func (.func 74) #[] #[.pointer (some ⟨b0, 0, none⟩), .pointer (some ⟨b1, 0, none⟩), .pointer (some ⟨b2, 0, none⟩), .pointer (some ⟨b3, 0, none⟩), .pointer (some ⟨b4, 0, none⟩)]] 73
  rd : RdE w p n es
  am : Mp w r1 fa
  sm : Mp w r3 fs
  d1 : r1 ≠ r0
  d3 : r3 ≠ r0
  pm : Pm fa es
  sp : ∀ o, mget o fs = 0 ↔ o ∉ cl
section
variable {w w' : World} {es : List En} {cl : List Int} {b0 b1 b2 b3 b4 r0 r1 r3 : Nat} {p : Option Addr} {n c : Nat} {fa fs f : List (Int × Int)}
theorem Ev.keepM (h : Ev w es cl b0 b1 b2 b3 b4 r0 r1 r3 p n c fa fs) (hM : Mp w r0 f) (hk : Keep (One r0) w w') : Ev w' es cl b0 b1 b2 b3 b4 r0 r1 r3 p n c fa fs :=
  ⟨blk_keepM h.kn hM hk, blk_keepM h.tr hM hk, blk_keepM h.at' hM hk, blk_keepM h.st hM hk, blk_keepM h.fn hM hk, rde_keepM h.rd hM hk, h.am.keep hk h.d1, h.sm.keep hk h.d3, h.d1, h.d3, h.pm, h.sp⟩
theorem Ev.keep0 (h : Ev w es cl b0 b1 b2 b3 b4 r0 r1 r3 p n c fa fs) (hk : Keep None w w') : Ev w' es cl b0 b1 b2 b3 b4 r0 r1 r3 p n c fa fs :=
  ⟨h.kn.keep0 hk, h.tr.keep0 hk, h.at'.keep0 hk, h.st.keep0 hk, h.fn.keep0 hk, h.rd.keep0 hk, h.am.keep0 hk, h.sm.keep0 hk, h.d1, h.d3, h.pm, h.sp⟩
theorem lit_ne (hF : Fm es) {i j : Nat} {x y : En} (hx : es[i]? = some x) (hy : es[j]? = some y) (h : neg x.lit = neg y.lit) : i = j := by
  have f1 := (hF i x hx).1
  have f2 := (hF j y hy).1
  have e : x.lit = y.lit := by rw [← neg_neg f1, h, neg_neg f2]
  exact fm_uniq hF f1 hx hy (Or.inl rfl) (Or.inl e.symm)
theorem at_of (hF : Fm es) (hP : Pm fa es) {i : Nat} {x : En} (hx : es[i]? = some x) : mget (neg x.lit) fa = (i : Int) + 1 := by
  rcases hP (neg x.lit) with ⟨_, h⟩ | ⟨j, y, e, hy, hyl⟩
  · exact absurd rfl (h x (List.mem_of_getElem? hx))
  · rw [e, lit_ne hF hy hx hyl]
/-- what the memory of earlier answers holds up to place i -/
def Kv (es : List En) (cl : List Int) (f : List (Int × Int)) (i : Nat) : Prop := ∀ j y, j ≤ i → es[j]? = some y → mget (neg y.lit) f = 0 ∨ (mget (neg y.lit) f = 1 ∧ Cov es cl j) ∨ (mget (neg y.lit) f = 2 ∧ ¬ Cov es cl j)
def Fr (es : List En) (f f' : List (Int × Int)) (i : Nat) : Prop := ∀ k, (∀ j y, j ≤ i → es[j]? = some y → neg y.lit ≠ k) → mget k f' = mget k f
def Told (es : List En) (cl : List Int) (w : World) (r0 : Nat) (f : List (Int × Int)) (i : Nat) (v : Value) (w' : World) : Prop :=
  ∃ b f', v = .bool b ∧ (b = true ↔ Cov es cl i) ∧ Mp w' r0 f' ∧ Kv es cl f' i ∧ Fr es f f' i ∧ Keep (One r0) w w'
theorem covered44 (hF : Fm es) (hn : n ≤ 1048576) (hr : ∀ x ∈ es, x.rs.length ≤ 1048576) : ∀ (i : Nat) (x : En) (w : World) (f : List (Int × Int)), es[i]? = some x → Ev w es cl b0 b1 b2 b3 b4 r0 r1 r3 p n c fa fs → Mp w r0 f → Kv es cl f i →
    Calls Try.prog 74 #[I (neg x.lit), .pointer (some ⟨b0, 0, none⟩), .pointer (some ⟨b1, 0, none⟩), .pointer (some ⟨b2, 0, none⟩), .pointer (some ⟨b3, 0, none⟩), .pointer (some ⟨b4, 0, none⟩)] w fun e w' => ∃ v, e = .returned v ∧ Told es cl w r0 f i v w' := by
  intro i
  induction i using Nat.strongRecOn with
  | ind i ih =>
  intro x w f hx hE hM hK
  have hlen := hE.rd.len
  have hi := (List.getElem?_eq_some_iff.1 hx).1
  have hg := hF i x hx
  have hrx := hr x (List.mem_of_getElem? hx)
  refine V74_calls (neg x.lit) ⟨b0, 0, none⟩ ⟨b1, 0, none⟩ ⟨b2, 0, none⟩ ⟨b3, 0, none⟩ ⟨b4, 0, none⟩ w (Told es cl w r0 f i) ?_
  unfold V74
  refine ⟨fun _ w' => ∃ f', ((mget (neg x.lit) f' = 1 ∧ Cov es cl i) ∨ (mget (neg x.lit) f' = 2 ∧ ¬ Cov es cl i)) ∧ Mp w' r0 f' ∧ Kv es cl f' i ∧ Fr es f f' i ∧ Keep (One r0) w w', ?_, ?_⟩
  · refine ldM_of (hE.kn.cell 0) (lk_of u52 Try.underlying3 z3 hM (pif_of (fun h0 => ?_) fun h0 => ?_))
    · have h0 : mget (neg x.lit) f = 0 := by simpa using h0
      refine ldM_of (hE.kn.cell 0) (up_of u52 Try.underlying3 hM fun w3 hM3 k3 _ => ?_)
      have hE3 := hE.keepM hM k3
      refine ldC_of (hE3.tr.cell 0) (ldM_of (hE3.at'.cell 0) (lk_of u52 Try.underlying3 z3 hE3.am ?_))
      rw [at_of hF hE.pm hx]
      have ei : IntKind.wrap .i64 ((i : Int) + 1 - 1) = (i : Int) := by rw [IntKind.wrap_i64]; omega
      rw [ei]
      refine hE3.rd.ix hx fun ad ⟨q, rn, rc, c0, c1, c2, hq⟩ => ldI_of c0 (ldI_of c1 (ldC_of c2 ?_))
      have hql := hq.len
      refine alc_at fun b w4 hb hB k4 => ?_
      simp only [add_mk, Nat.add_zero, Nat.zero_add]
      refine st_of hB (by simp) rfl fun w5 hB5 k5 _ => ?_
      refine st_of hB5 (by simp) rfl fun w6 hB6 k6 _ => ?_
      refine st_of hB6 (by simp) rfl fun w7 hB7 k7 _ => ?_
      have k37 : Keep None w3 w7 := ((k4.then1 k5 (by omega)).then1 k6 (by omega)).then1 k7 (by omega)
      simp only [List.set_cons_zero, List.set_cons_succ] at hB7
      have hE7 := hE3.keep0 k37
      have hM7 := hM3.keep0 k37
      have hq7 := hq.keep0 k37
      have k07 : Keep (One r0) w w7 := k3.trans k37 fun j _ h => h.elim
      generalize hf3 : mput (neg x.lit) 1 f = f3 at *
      have hget3 : ∀ k, mget k f3 = if k = neg x.lit then 1 else mget k f := fun k => by rw [← hf3, mget_mput]
      have kv3 : ∀ j y, j < i → es[j]? = some y → mget (neg y.lit) f3 = 0 ∨ (mget (neg y.lit) f3 = 1 ∧ Cov es cl j) ∨ (mget (neg y.lit) f3 = 2 ∧ ¬ Cov es cl j) := fun j y hj hy => by
        rw [hget3, if_neg fun e => by have := lit_ne hF hy hx e; omega]
        exact hK j y (by omega) hy
      -- the answer is settled
      have fin : ∀ {w' : World} {f' : List (Int × Int)}, ((mget (neg x.lit) f' = 1 ∧ Cov es cl i) ∨ (mget (neg x.lit) f' = 2 ∧ ¬ Cov es cl i)) → Mp w' r0 f' → (∀ j y, j < i → es[j]? = some y → mget (neg y.lit) f' = 0 ∨ (mget (neg y.lit) f' = 1 ∧ Cov es cl j) ∨ (mget (neg y.lit) f' = 2 ∧ ¬ Cov es cl j)) →
          (∀ k, (∀ j y, j ≤ i → es[j]? = some y → neg y.lit ≠ k) → mget k f' = mget k f3) → Keep (One r0) w w' → ∃ f', ((mget (neg x.lit) f' = 1 ∧ Cov es cl i) ∨ (mget (neg x.lit) f' = 2 ∧ ¬ Cov es cl i)) ∧ Mp w' r0 f' ∧ Kv es cl f' i ∧ Fr es f f' i ∧ Keep (One r0) w w' := by
        intro w' f' h1 h2 h3 h4 h5
        refine ⟨f', h1, h2, fun j y hj hy => ?_, fun k hk => ?_, h5⟩
        · by_cases hji : j = i
          · subst hji
            rw [hx] at hy; injection hy with hy; subst hy
            exact Or.inr h1
          · exact h3 j y (by omega) hy
        · rw [h4 k hk, hget3, if_neg fun e => hk i x (Nat.le_refl _) hx e.symm]
      -- the keys of earlier entries are others
      have keyne : ∀ {j : Nat} {y : En}, j < i → es[j]? = some y → neg y.lit ≠ neg x.lit := fun hj hy e => by have := lit_ne hF hy hx e; omega
      -- l is told to stay
      have settle2 : ∀ {w' : World} {g : List (Int × Int)}, ¬ Cov es cl i → Mp w' r0 g → (∀ j y, j < i → es[j]? = some y → mget (neg y.lit) g = 0 ∨ (mget (neg y.lit) g = 1 ∧ Cov es cl j) ∨ (mget (neg y.lit) g = 2 ∧ ¬ Cov es cl j)) →
          (∀ k, (∀ j y, j ≤ i → es[j]? = some y → neg y.lit ≠ k) → mget k g = mget k f3) → Keep (One r0) w w' → ∀ w'', Mp w'' r0 (mput (neg x.lit) 2 g) → Keep (One r0) w' w'' → ∃ f', ((mget (neg x.lit) f' = 1 ∧ Cov es cl i) ∨ (mget (neg x.lit) f' = 2 ∧ ¬ Cov es cl i)) ∧ Mp w'' r0 f' ∧ Kv es cl f' i ∧ Fr es f f' i ∧ Keep (One r0) w w'' := by
        intro w' g hc hM' h3 h4 h5 w'' hM'' k''
        refine fin (Or.inr ⟨by rw [mget_mput, if_pos rfl], hc⟩) hM'' (fun j y hj hy => ?_) (fun k hk => ?_) (h5.trans k'' fun i _ h => h)
        · rw [mget_mput, if_neg (keyne hj hy)]; exact h3 j y hj hy
        · rw [mget_mput, if_neg fun e => hk i x (Nat.le_refl _) hx e.symm]; exact h4 k hk
      by_cases hnil : x.rs = []
      · -- no reason
        have hrn0 : rn = 0 := by rw [hnil] at hql; simpa using hql.symm
        have hcov : ¬ Cov es cl i := fun h => by
          cases h with
          | mk hx' hne _ => rw [hx] at hx'; injection hx' with hx'; subst hx'; exact hne hnil
        refine ⟨fun _ w' => Mp w' r0 (mput (neg x.lit) 2 f3) ∧ Keep (One r0) w7 w', ldC_of (hB7.cell 2) (pif_t (by simp [hrn0]) (ldM_of (hE7.kn.cell 0) (up_of u52 Try.underlying3 hM7 fun w8 hM8 k8 _ => ⟨hM8, k8⟩))), ?_⟩
        rintro ⟨⟩ w9 ⟨hM9, k9⟩
        have hB9 := blk_keepM hB7 hM7 k9
        refine ldC_of (hB9.cell 2) (lp_of (fun s w' => s.1 = 0 ∧ w' = w9) (fun s _ => 0) ⟨rfl, rfl⟩ ?_)
        rintro ⟨j', ⟨⟩⟩ w10 ⟨rfl, rfl⟩
        refine pif_f (by simp [hrn0]) (settle2 hcov hM7 (fun j y hj hy => ?_) (fun k _ => rfl) k07 _ hM9 k9)
        exact kv3 j y hj hy
      · have hR := hg.2.2.2 hnil
        have hrn0 : 0 < rn := by
          rw [← hql]; exact List.length_pos_iff.2 hnil
        refine ⟨fun _ w' => w' = w7, ldC_of (hB7.cell 2) (pif_f (by simp; omega) rfl), ?_⟩
        rintro ⟨⟩ w9 rfl
        refine ldC_of (hB7.cell 2) (lp_of (fun s w' => ∃ (j : Nat) (g : List (Int × Int)), s.1 = (j : Int) ∧ j ≤ rn ∧ Mp w' r0 g ∧ mget (neg x.lit) g = 1 ∧
          (∀ j y, j < i → es[j]? = some y → mget (neg y.lit) g = 0 ∨ (mget (neg y.lit) g = 1 ∧ Cov es cl j) ∨ (mget (neg y.lit) g = 2 ∧ ¬ Cov es cl j)) ∧ (∀ k, (∀ j y, j ≤ i → es[j]? = some y → neg y.lit ≠ k) → mget k g = mget k f3) ∧ Keep (One r0) w9 w' ∧
          (∀ o ∈ x.rs.take j, o ≠ x.lit → ∀ (a : Nat) (y : En), es[a]? = some y → y.lit = neg o → 0 < y.lev → o ∉ cl → Cov es cl a)) (fun s _ => (rn - s.1).toNat)
          ⟨0, f3, rfl, Nat.zero_le _, hM7, by rw [hget3, if_pos rfl], kv3, fun k _ => rfl, Keep.refl _ _, by simp⟩ ?_)
        rintro ⟨j', ⟨⟩⟩ w10 ⟨j, g, rfl, hj, hMg, hone, hkv, hfr, k10, hall⟩
        simp only []
        have k010 : Keep (One r0) w w10 := k07.trans k10 fun i _ h => h
        have hE10 := hE7.keepM hM7 k10
        refine pif_of (fun hlt => ?_) fun hge => ?_
        · have hlt : j < rn := by simpa using hlt
          rw [wrap_nat j (by omega)]
          refine (rdl_keepM hq7 hM7 k10).ix hlt fun ad o ho ha => ldI_of ha (ldI_of ((blk_keepM hB7 hM7 k10).cell 0) ?_)
          have nxt : (o ≠ x.lit → ∀ (a : Nat) (y : En), es[a]? = some y → y.lit = neg o → 0 < y.lev → o ∉ cl → Cov es cl a) → ∀ o ∈ x.rs.take (j + 1), o ≠ x.lit → ∀ (a : Nat) (y : En), es[a]? = some y → y.lit = neg o → 0 < y.lev → o ∉ cl → Cov es cl a := fun h o' ho' => by
            rw [take_snoc ho, List.mem_append, List.mem_singleton] at ho'
            rcases ho' with ho' | rfl
            · exact hall o' ho'
            · exact h
          by_cases hol : o = x.lit
          · have e0 : (o != x.lit) = false := by simp [hol]
            rw [e0]
            exact gd_f rfl (gd_f rfl (gd_f rfl (gd_f rfl (gd_f rfl (gd_f rfl (gd_f rfl (gd_f rfl (gd_f rfl (pif_f rfl ⟨⟨j + 1, g, rfl, hlt, hMg, hone, hkv, hfr, k10, nxt fun h => absurd hol h⟩, by omega⟩)))))))))
          · have e0 : (o != x.lit) = true := by simpa using hol
            rw [e0]
            have hom := List.mem_of_getElem? ho
            have hfo : fl o = true := List.all_eq_true.1 hR.1 o hom
            obtain ⟨y, hym, hyl⟩ := hR.2.2 o hom hol
            obtain ⟨a, hya⟩ := List.mem_iff_getElem?.1 hym
            have hai : a < i := by
              have := (List.getElem?_eq_some_iff.1 hya).1
              rw [List.length_take] at this; omega
            rw [List.getElem?_take, if_pos hai] at hya
            have hno : neg y.lit = o := by rw [hyl, neg_neg hfo]
            have uniq : ∀ (a' : Nat) (y' : En), es[a']? = some y' → y'.lit = neg o → a' = a ∧ y' = y := fun a' y' h1 h2 => by
              have : a' = a := fm_uniq hF hfo h1 hya (Or.inr h2) (Or.inr hyl)
              subst this
              rw [hya] at h1; injection h1 with h1
              exact ⟨rfl, h1.symm⟩
            have hat : mget o fa = (a : Int) + 1 := by rw [← hno]; exact at_of hF hE.pm hya
            have ea : IntKind.wrap .i64 ((a : Int) + 1 - 1) = (a : Int) := by rw [IntKind.wrap_i64]; omega
            refine gd_t rfl (ldC_of (hE10.tr.cell 0) (gd_t rfl (ldM_of (hE10.at'.cell 0) (gd_t rfl (lk_of u52 Try.underlying3 z3 hE10.am (gd_t rfl ?_))))))
            rw [hat, ea]
            refine hE10.rd.ix hya fun ad ⟨_, _, _, _, c1, _⟩ => gd_t rfl (ldI_of c1 ?_)
            by_cases hlev : 0 < y.lev
            · have e1 : (cond true (decide (y.lev > 0)) false) = true := by rw [decide_eq_true hlev]; rfl
              refine gd_t e1 (ldM_of (hE10.st.cell 0) (gd_t e1 (lk_of u52 Try.underlying3 z3 hE10.sm ?_)))
              by_cases hst : mget o fs = 0
              · have e2 : (cond (cond true (decide (y.lev > 0)) false) (mget o fs == 0) false) = true := by rw [e1, hst]; rfl
                have hncl := (hE.sp o).1 hst
                refine gd_t e2 (ldV_of (hE10.fn.cell 0) (gd_t e2 (clF_of ?_)))
                have hkva : Kv es cl g a := fun j' y' hj' hy' => hkv j' y' (by omega) hy'
                have go := ih a hai y w10 g hya hE10 hMg hkva
                rw [hno] at go
                refine cl_of ok74 go fun e w11 ⟨v, he, b', g', hv, hb', hMg', hK', hFr', k11⟩ => ⟨b', he.trans (congrArg Ending.returned hv), ?_⟩
                have k011 : Keep (One r0) w w11 := k010.trans k11 fun i _ h => h
                have k911 : Keep (One r0) w9 w11 := k10.trans k11 fun i _ h => h
                have hone' : mget (neg x.lit) g' = 1 := by
                  rw [hFr' (neg x.lit) fun j' y' hj' hy' => keyne (by omega) hy']; exact hone
                have hkv' : ∀ j y, j < i → es[j]? = some y → mget (neg y.lit) g' = 0 ∨ (mget (neg y.lit) g' = 1 ∧ Cov es cl j) ∨ (mget (neg y.lit) g' = 2 ∧ ¬ Cov es cl j) := fun j' y' hj' hy' => by
                  by_cases hle : j' ≤ a
                  · exact hK' j' y' hle hy'
                  · rw [hFr' (neg y'.lit) fun j2 y2 hj2 hy2 e => by have := lit_ne hF hy2 hy' e; omega]
                    exact hkv j' y' hj' hy'
                have hfr' : ∀ k, (∀ j y, j ≤ i → es[j]? = some y → neg y.lit ≠ k) → mget k g' = mget k f3 := fun k hk => by
                  rw [hFr' k fun j2 y2 hj2 hy2 => hk j2 y2 (by omega) hy2]; exact hfr k hk
                cases b' with
                | true =>
                  refine pif_f (by rw [e2]; rfl) ⟨⟨j + 1, g', rfl, hlt, hMg', hone', hkv', hfr', k911, nxt fun _ a' y' h1 h2 _ _ => ?_⟩, by omega⟩
                  rw [(uniq a' y' h1 h2).1]
                  exact hb'.1 rfl
                | false =>
                  have hcov : ¬ Cov es cl i := fun h => by
                    cases h with
                    | mk hx' hne h =>
                      rw [hx] at hx'; injection hx' with hx'; subst hx'
                      have := hb'.2 (h o hom hol a y hya hyl hlev hncl)
                      cases this
                  have hE11 := hE10.keepM hMg k11
                  exact pif_t (by rw [e2]; rfl) (ldM_of (hE11.kn.cell 0) (up_of u52 Try.underlying3 hMg' fun w12 hM12 k12 _ => settle2 hcov hMg' hkv' hfr' k011 w12 hM12 k12))
              · have e2 : (cond (cond true (decide (y.lev > 0)) false) (mget o fs == 0) false) = false := by rw [e1]; simpa using hst
                refine gd_f e2 (gd_f e2 (pif_f (by rw [e2]; rfl) ⟨⟨j + 1, g, rfl, hlt, hMg, hone, hkv, hfr, k10, nxt fun _ a' y' h1 h2 _ h4 => absurd ((hE.sp o).2 h4) hst⟩, by omega⟩))
            · have e1 : (cond true (decide (y.lev > 0)) false) = false := by rw [decide_eq_false hlev]; rfl
              have e2 : ∀ z : Bool, (cond (cond true (decide (y.lev > 0)) false) z false) = false := fun z => by rw [e1]; rfl
              refine gd_f e1 (gd_f e1 (gd_f (e2 _) (gd_f (e2 _) (pif_f (by rw [e2]; rfl) ⟨⟨j + 1, g, rfl, hlt, hMg, hone, hkv, hfr, k10, nxt fun _ a' y' h1 h2 h3 _ => ?_⟩, by omega⟩))))
              rw [(uniq a' y' h1 h2).2] at h3
              exact absurd h3 hlev
        · have hge : j = rn := by simp at hge; omega
          subst hge
          rw [← hql, List.take_length] at hall
          exact fin (Or.inl ⟨hone, Cov.mk hx hnil hall⟩) hMg hkv hfr k010
    · have h0 : ¬ mget (neg x.lit) f = 0 := by simpa using h0
      exact ⟨f, (hK i x (Nat.le_refl _) hx).resolve_left h0, hM, hK, fun k _ => rfl, Keep.refl _ _⟩
  · rintro ⟨⟩ w1 ⟨f', hd, hM', hK', hFr, k1⟩
    have hE1 := hE.keepM hM k1
    refine ldM_of (hE1.kn.cell 0) (lk_of u52 Try.underlying3 z3 hM' ⟨_, f', rfl, ?_, hM', hK', hFr, k1⟩)
    rcases hd with ⟨e, hc⟩ | ⟨e, hc⟩
    · rw [e]; exact ⟨fun _ => hc, fun _ => rfl⟩
    · rw [e]; exact ⟨fun h => absurd h (by decide), fun h => absurd h hc⟩
end
end Go.Proofs.Ytmhjehodfggleaa.Learn

/- Shrink: what is asked, what the document covers. -/
set_option linter.unusedVariables false
set_option linter.unusedSimpArgs false
set_option maxRecDepth 100000
namespace Go.Proofs.Ytmhjehodfggleaa.Learn
open Go Go.Proofs.Ytmhjehodfggleaa.Vc Go.Proofs.Ytmhjehodfggleaa.T
open Go.Proofs.Ytmhjehodfggleaa.Apart (RdL own_rdl wrap_nat getE own_len copy same take_snoc Sl sv Gro)

section
variable {w : World} {e : TypeId} {p : Option Addr} {n c i : Nat} {xs : List Value}
theorem own_at {K : Addr → Prop} (h : Own w e 1 p n c xs) (hi : i < n) (hK : ∀ a v, xs[i]? = some v → w.cell? a = some v → K a) : ixA p n (i : Int) 1 K := by
  have hl := h.len
  refine h.ix (by omega) (by omega) fun b hb => ?_
  rw [Nat.mul_one, Int.toNat_natCast]
  have h' := h
  rw [hb] at h'
  obtain ⟨v, hv⟩ := getE (show i < xs.length by omega)
  exact hK _ v hv (by rw [h'.cell _ (by omega), hv])
theorem app_one {t : TypeId} {B m : Nat} {z v : Value} {K : Option Addr → Nat → Nat → World → Prop} (ht : Try.prog.underlying t = some (.slice e)) (hi0 : (Try.prog.info? e).map (fun i => (i.zero, i.size, i.bytes)) = some (some z, 1, B)) (hz : z.cells.size = 1) (hB : B ≤ 64)
    (hv : v.oneCell' = true) (h : Own w e 1 p m c xs) (hm : m < 1099511627776)
    (hk : ∀ p' c' w', Own w' e 1 p' (m + 1) c' (xs ++ [v]) → Keep (ob p) w w' → (∀ i, ob p' i → ob p i ∨ w.heap.size ≤ i) → K p' (m + 1) c' w') :
    alc w [v] e fun b w7 => ∃ (p' : Option Addr) (n' c' : Nat), ∃ w' : World, (Builtin.append_ #[t, t] t #[.slice p m c, .slice (some ⟨b, 0, none⟩) 1 1]).run Try.prog w7 = .ok (.slice p' n' c') w' ∧ K p' n' c' w' := by
  refine alc_at fun b w7 hb7 h7 k7 => ?_
  have z7 := k7.size
  refine app_of2 (e := e) (sz := 1) (z := z) (B := B) ht hi0 hz (by omega) (h.keep0 k7) h7.news1 (fun u hu => ?_) (by simp only [maxLen]; omega) ?_ fun p' c' w' hO' hd => ?_
  · simp only [List.mem_singleton] at hu; subst hu; exact hv
  · have : (m + 1) * B ≤ 1099511627776 * 64 := Nat.mul_le_mul (by omega) hB
    omega
  · rcases hd with ⟨e1, e2, _, k⟩ | ⟨e1, k⟩
    · exact hk p' c' w' hO' ((k7.none).trans k fun _ _ h => h) fun i hi => Or.inl (by rw [← e1]; exact hi)
    · exact hk p' c' w' hO' ((k7.none).trans k.none fun _ _ h => h) fun i hi => Or.inr (by have := e1 i hi; omega)
end
theorem info3 : (Try.prog.info? 3).map (fun i => (i.zero, i.size, i.bytes)) = some (some (I 0), 1, 8) := by kernel_rfl
theorem info4 : (Try.prog.info? 4).map (fun i => (i.zero, i.size, i.bytes)) = some (some (Value.bool false), 1, 1) := by kernel_rfl
def Fals (es : List En) (cs : List Int) : Prop := ∀ l ∈ cs, ∃ y ∈ es, y.lit = neg l
/-- whether it is a trail and a clause that is false under it -/
def Askd (es : List En) (cs : List Int) (v : Int) : Prop :=
  (v = 1 ∧ ¬ (Fm es ∧ cs.all fl = true)) ∨ (v = 2 ∧ ¬ Fals es cs ∧ Fm es ∧ cs.all fl = true) ∨ (v = 0 ∧ Fals es cs ∧ Fm es ∧ cs.all fl = true)
theorem Askd.unique {es : List En} {cs : List Int} {v u : Int} (h : Askd es cs v) (h' : Askd es cs u) : v = u := by
  rcases h with ⟨rfl, a⟩ | ⟨rfl, a, b⟩ | ⟨rfl, a, b⟩ <;> rcases h' with ⟨rfl, a'⟩ | ⟨rfl, a', b'⟩ | ⟨rfl, a', b'⟩
  · rfl
  · exact absurd b' a
  · exact absurd b' a
  · exact absurd b a'
  · rfl
  · exact absurd a' a
  · exact absurd b a'
  · exact absurd a a'
  · rfl
section
variable {w w' : World} {p q : Option Addr} {n m c d : Nat} {es : List En} {cs : List Int}
theorem asked43 (hE : RdE w p n es) (hn : n ≤ 1048576) (hr : ∀ x ∈ es, x.rs.length ≤ 1048576) (hC : RdL w q m cs) (hm : m ≤ 1048576) {r : Nat} {fa : List (Int × Int)} (hM : Mp w r fa) (hP : Pm fa es) :
    Calls Try.prog 72 #[.slice p n c, .slice q m d, .map (some r)] w fun e w' => ∃ v, e = .returned (I v) ∧ Askd es cs v ∧ Keep None w w' := by
  refine (V72_calls p n c q m d (some r) w (fun v w' => ∃ u, v = I u ∧ Askd es cs u ∧ Keep None w w') ?_).mono fun e w' ⟨v, he, u, hv, hk⟩ => ⟨u, by rw [he, hv], hk⟩
  unfold V72
  have hcl := hC.len
  refine cl_of ok87 (formed10 hE (by omega) (fun x hx => by have := hr x hx; omega)) fun e w1 ⟨b, he, hb, k1⟩ => ⟨b, he, ?_⟩
  cases b with
  | false => exact gd_f rfl (pif_t rfl ⟨1, rfl, Or.inl ⟨rfl, fun h => by have := hb.2 h.1; cases this⟩, k1⟩)
  | true =>
    have hF := hb.1 rfl
    refine gd_t rfl (cl_of ok50 (sound39 (hC.keep0 k1) (by omega)) fun e w2 ⟨he, k2⟩ => ⟨_, he, ?_⟩)
    have k02 := k1.then0 k2
    cases hs : cs.all fl with
    | false => exact pif_t rfl ⟨1, rfl, Or.inl ⟨rfl, fun h => by have := h.2; rw [hs] at this; cases this⟩, k02⟩
    | true =>
      refine pif_f rfl (lp_of (fun s w' => ∃ i : Nat, s.1 = (i : Int) ∧ i ≤ m ∧ Keep None w w' ∧ Fals es (cs.take i)) (fun s _ => (m - s.1).toNat) ⟨0, rfl, Nat.zero_le _, k02, fun l hl => by cases hl⟩ ?_)
      rintro ⟨i', ⟨⟩⟩ w3 ⟨i, rfl, hi, k3, hfa⟩
      simp only []
      refine pif_of (fun hlt => ?_) fun hge => ?_
      · have hlt : i < m := by simpa using hlt
        rw [wrap_nat i (by omega)]
        refine (hC.keep0 k3).ix hlt fun a l hl ha => ldI_of ha (lk_of u52 Try.underlying3 z3 (hM.keep0 k3) ?_)
        have hfl : fl l = true := List.all_eq_true.1 hs l (List.mem_of_getElem? hl)
        rcases hP l with ⟨e, hno⟩ | ⟨k, x, e, hx, hxl⟩
        · rw [e]
          refine pif_t rfl ⟨2, rfl, Or.inr (Or.inl ⟨rfl, fun h => ?_, hF, hs⟩), k3⟩
          obtain ⟨y, hy, hyl⟩ := h l (List.mem_of_getElem? hl)
          exact hno y hy (by rw [hyl, neg_neg hfl])
        · rw [e]
          refine pif_f (by simp; omega) ⟨⟨i + 1, rfl, hlt, k3, fun l' hl' => ?_⟩, by omega⟩
          rw [take_snoc hl, List.mem_append, List.mem_singleton] at hl'
          rcases hl' with hl' | rfl
          · exact hfa l' hl'
          · exact ⟨x, List.mem_of_getElem? hx, by rw [← hxl, neg_neg (hF k x hx).1]⟩
      · have hge : i = m := by simp at hge; omega
        subst hge
        rw [← hcl, List.take_length] at hfa
        exact ⟨0, rfl, Or.inr (Or.inr ⟨rfl, hfa, hF, hs⟩), k3⟩
/-- what is asked of a reason's literals so far -/
def Cv (es : List En) (cl : List Int) (x : En) (os : List Int) : Prop := ∀ o ∈ os, o ≠ x.lit → ∀ (a : Nat) (y : En), es[a]? = some y → y.lit = neg o → 0 < y.lev → o ∉ cl → Cov es cl a
theorem cov_iff {i : Nat} {x : En} {cl : List Int} (hx : es[i]? = some x) : Cov es cl i ↔ x.rs ≠ [] ∧ Cv es cl x x.rs := by
  constructor
  · intro h
    cases h with
    | mk hx' hne h => rw [hx] at hx'; injection hx' with hx'; subst hx'; exact ⟨hne, h⟩
  · exact fun h => Cov.mk hx h.1 h.2
end
end Go.Proofs.Ytmhjehodfggleaa.Learn

/- Shrink, the document's. -/
set_option linter.unusedVariables false
set_option linter.unusedSimpArgs false
set_option maxRecDepth 100000
namespace Go.Proofs.Ytmhjehodfggleaa.Learn
open Go Go.Proofs.Ytmhjehodfggleaa.Vc Go.Proofs.Ytmhjehodfggleaa.T
open Go.Proofs.Ytmhjehodfggleaa.Apart (RdL own_rdl wrap_nat getE own_len copy same take_snoc Sl sv Gro)

theorem slA_zero (p : Option Addr) (c sz : Nat) : slA p c 0 sz = p := by
  unfold slA
  split
  · rfl
  · cases p with
    | none => rfl
    | some a => simp [Addr.add]
/-- does the i-th literal stay? -/
def Kp (es : List En) (cl : List Int) (i : Nat) (l : Int) : Prop := l ∉ cl.take i ∧ (i = 0 ∨ ∃ (a : Nat) (y : En), es[a]? = some y ∧ y.lit = neg l ∧ 0 < y.lev ∧ ¬ Cov es cl a)
open Classical in
noncomputable def shr (es : List En) (cl : List Int) : Nat → List Int
  | 0 => []
  | i + 1 => shr es cl i ++ (if Kp es cl i (cl.getD i 0) then [cl.getD i 0] else [])
theorem shr_yes {es : List En} {cl : List Int} {i : Nat} {l : Int} (hl : cl[i]? = some l) (h : Kp es cl i l) : shr es cl (i + 1) = shr es cl i ++ [l] := by
  have e : cl.getD i 0 = l := by rw [List.getD_eq_getElem?_getD, hl]; rfl
  rw [shr, e, if_pos h]
theorem shr_no {es : List En} {cl : List Int} {i : Nat} {l : Int} (hl : cl[i]? = some l) (h : ¬ Kp es cl i l) : shr es cl (i + 1) = shr es cl i := by
  have e : cl.getD i 0 = l := by rw [List.getD_eq_getElem?_getD, hl]; rfl
  rw [shr, e, if_neg h, List.append_nil]
theorem shr_len (es : List En) (cl : List Int) : ∀ i, (shr es cl i).length ≤ i := by
  intro i
  induction i with
  | zero => exact Nat.le_refl _
  | succ i ih =>
    rw [shr, List.length_append]
    split
    · simp; omega
    · simp; omega
def Shrunk (es : List En) (cs : List Int) (w : World) (v : Value) (w' : World) : Prop := ∃ (u : Int) (q : Option Addr) (qn qc : Nat) (L : List Int), v = .tuple #[.slice q qn qc, I u] ∧ Askd es cs u ∧ Own w' 3 1 q qn qc (L.map I) ∧ (∀ j, ob q j → w.heap.size ≤ j) ∧ (u = 0 → L = shr es cs cs.length) ∧ (u ≠ 0 → L = []) ∧ Keep None w w'
theorem kp_iff {es : List En} {cl : List Int} (hF : Fm es) {i : Nat} {l : Int} (hfl : fl l = true) {a : Nat} {y : En} (hy : es[a]? = some y) (hyl : y.lit = neg l) (hi : i ≠ 0) (hno : l ∉ cl.take i) : Kp es cl i l ↔ 0 < y.lev ∧ ¬ Cov es cl a := by
  constructor
  · rintro ⟨_, h⟩
    rcases h with h | ⟨a', y', h1, h2, h3, h4⟩
    · exact absurd h hi
    · have e := fm_uniq hF hfl h1 hy (Or.inr h2) (Or.inr hyl)
      subst e
      rw [hy] at h1; injection h1 with h1
      subst h1
      exact ⟨h3, h4⟩
  · exact fun h => ⟨hno, Or.inr ⟨a, y, hy, hyl, h.1, h.2⟩⟩
section
variable {w w' : World} {p q : Option Addr} {n m c d : Nat} {es : List En} {cs : List Int}
end
end Go.Proofs.Ytmhjehodfggleaa.Learn

/- Shrink, the program's; LearnShrinks. -/
set_option linter.unusedVariables false
set_option linter.unusedSimpArgs false
set_option maxRecDepth 100000
namespace Go.Proofs.Ytmhjehodfggleaa.Learn
open Go Go.Proofs.Ytmhjehodfggleaa.Vc Go.Proofs.Ytmhjehodfggleaa.T
open Go.Proofs.Ytmhjehodfggleaa.Apart (RdL own_rdl wrap_nat getE own_len copy same take_snoc Sl sv Gro)

section
variable {w w1 w2 : World} {es : List En} {cl : List Int} {b0 b1 b2 b3 b4 r0 r1 r3 N : Nat} {p : Option Addr} {n c : Nat} {fa fs fs2 f : List (Int × Int)} {S : Nat → Prop}
theorem Ev.keepX (h : Ev w1 es cl b0 b1 b2 b3 b4 r0 r1 r3 p n c fa fs) (hk : Keep S w1 w2) (hS : ∀ i, S i → N ≤ i) (hN : b0 < N ∧ b1 < N ∧ b2 < N ∧ b3 < N ∧ b4 < N ∧ r1 < N ∧ r3 < N) (hrd : RdE w2 p n es) : Ev w2 es cl b0 b1 b2 b3 b4 r0 r1 r3 p n c fa fs := by
  have no : ∀ {i}, i < N → ¬ S i := fun h1 h2 => by have := hS _ h2; omega
  exact ⟨h.kn.keep hk (no hN.1), h.tr.keep hk (no hN.2.1), h.at'.keep hk (no hN.2.2.1), h.st.keep hk (no hN.2.2.2.1), h.fn.keep hk (no hN.2.2.2.2.1), hrd, h.am.keep hk (no hN.2.2.2.2.2.1), h.sm.keep hk (no hN.2.2.2.2.2.2), h.d1, h.d3, h.pm, h.sp⟩
theorem zz3 : (Try.prog.info? 3).map (·.zero) = some (some (.int .i64 0)) := z3
theorem Ev.put (h : Ev w1 es cl b0 b1 b2 b3 b4 r0 r1 r3 p n c fa fs) (hM : Mp w1 r0 f) (k : Keep (One r3) w1 w2) (hs2 : Mp w2 r3 fs2) (h13 : r1 ≠ r3) (hsp : ∀ o, mget o fs2 = 0 ↔ o ∉ cl) : Ev w2 es cl b0 b1 b2 b3 b4 r0 r1 r3 p n c fa fs2 ∧ Mp w2 r0 f :=
  ⟨⟨blk_keepM h.kn h.sm k, blk_keepM h.tr h.sm k, blk_keepM h.at' h.sm k, blk_keepM h.st h.sm k, blk_keepM h.fn h.sm k, rde_keepM h.rd h.sm k, h.am.keep k h13, hs2, h.d1, h.d3, h.pm, hsp⟩, hM.keep k fun e => h.d3 (Eq.symm e)⟩
end
/-- which of the clause's literals are done -/
def Sp (cs : List Int) (fs : List (Int × Int)) (i : Nat) : Prop := ∀ o, (mget o fs = 2 ∧ o ∈ cs.take i) ∨ (mget o fs = 1 ∧ o ∈ cs ∧ o ∉ cs.take i) ∨ (mget o fs = 0 ∧ o ∉ cs)
theorem take_sub {cs : List Int} {i : Nat} {o : Int} (h : o ∈ cs.take i) : o ∈ cs := (List.take_sublist i cs).subset h
theorem Sp.zero {cs : List Int} {fs : List (Int × Int)} {i : Nat} (h : Sp cs fs i) (o : Int) : mget o fs = 0 ↔ o ∉ cs := by
  rcases h o with ⟨e, hm⟩ | ⟨e, hm, _⟩ | ⟨e, hm⟩
  · rw [e]; exact ⟨fun h => absurd h (by decide), fun h => absurd (take_sub hm) h⟩
  · rw [e]; exact ⟨fun h => absurd h (by decide), fun h => absurd hm h⟩
  · rw [e]; exact ⟨fun _ => hm, fun _ => rfl⟩
theorem Sp.next {cs : List Int} {fs : List (Int × Int)} {i : Nat} {l : Int} (h : Sp cs fs i) (hl : cs[i]? = some l) : Sp cs (mput l 2 fs) (i + 1) := fun o => by
  rw [mget_mput, take_snoc hl]
  by_cases ho : o = l
  · rw [if_pos ho]; exact Or.inl ⟨rfl, by simp [ho]⟩
  · rw [if_neg ho]
    rcases h o with ⟨e, hm⟩ | ⟨e, hm, hn⟩ | ⟨e, hm⟩
    · exact Or.inl ⟨e, by simp [hm]⟩
    · exact Or.inr (Or.inl ⟨e, hm, by simp [hn, ho]⟩)
    · exact Or.inr (Or.inr ⟨e, hm⟩)
theorem Sp.skip {cs : List Int} {fs : List (Int × Int)} {i : Nat} {l : Int} (h : Sp cs fs i) (hl : cs[i]? = some l) (hin : l ∈ cs.take i) : Sp cs fs (i + 1) := fun o => by
  rw [take_snoc hl]
  rcases h o with ⟨e, hm⟩ | ⟨e, hm, hn⟩ | ⟨e, hm⟩
  · exact Or.inl ⟨e, by simp [hm]⟩
  · refine Or.inr (Or.inl ⟨e, hm, ?_⟩)
    rw [List.mem_append, List.mem_singleton]
    rintro (h | rfl)
    · exact hn h
    · exact hn hin
  · exact Or.inr (Or.inr ⟨e, hm⟩)
section
variable {w w' : World} {p q : Option Addr} {n m c d : Nat} {es : List En} {cs : List Int}
theorem shrink16 (hE : RdE w p n es) (hn : n ≤ 1048576) (hr : ∀ x ∈ es, x.rs.length ≤ 1048576) (hC : RdL w q m cs) (hm : m ≤ 1048576) :
    Calls Try.prog 44 #[.slice p n c, .slice q m d] w fun e w' => ∃ v, e = .returned v ∧ Shrunk es cs w v w' := by
  refine V44_calls p n c q m d w (Shrunk es cs w) ?_
  unfold V44
  have hcl := hC.len
  have hl := hE.len
  refine alc_at fun bT w1 hbT hT k1 => ?_
  simp only [add_mk, Nat.add_zero, Nat.zero_add]
  refine ldC_of (hT.cell 0) (cl_of ok71 (places40 (hE.keep0 k1) (by omega)) fun e w2 ⟨r1, fa, he, hr1, hM1, hP, k2⟩ => ⟨_, he, ?_⟩)
  have k02 := k1.then0 k2
  have z1 := k1.size
  have z2 := k2.size
  have lr1 := hM1.lt
  have lT := hT.lt
  refine alc_at fun bA w3 hbA hA k3 => ?_
  have lA := hA.lt
  have z3 := k3.size
  refine st_of hA (by simp) rfl fun w4 hA4 k4 _ => ?_
  have k24 : Keep None w2 w4 := k3.then1 k4 (by omega)
  simp only [List.set_cons_zero] at hA4
  have k04 := k02.then0 k24
  have hT4 := (hT.keep0 k2).keep0 k24
  have hM14 := hM1.keep0 k24
  refine ldC_of (hT4.cell 0) (ldM_of (hA4.cell 0) (cl_of ok72 (asked43 (hE.keep0 k04) hn hr (hC.keep0 k04) hm hM14 hP) fun e w5 ⟨u, he, hu, k5⟩ => ⟨u, he, ?_⟩))
  have k05 := k04.then0 k5
  by_cases hu0 : u ≠ 0
  · exact pif_t (by simpa using hu0) ⟨u, none, 0, 0, [], rfl, hu, Own.nil _ _ _, (fun j ⟨a, hh, _⟩ => by cases hh), fun h => absurd h hu0, fun _ => rfl, k05⟩
  obtain rfl : u = 0 := Classical.byContradiction hu0
  obtain ⟨hFa, hF, hs⟩ : Fals es cs ∧ Fm es ∧ cs.all fl = true := by
    rcases hu with ⟨h, _⟩ | ⟨h, _⟩ | ⟨_, h⟩
    · cases h
    · cases h
    · exact h
  refine pif_f rfl (mkmap_of fun r3 w6 hr3 hM3 k6 => alc_at fun bS w7 hbS hS7 k7 => ?_)
  have lr3 := hM3.lt
  have lS := hS7.lt
  have z4 := k24.size
  have z5 := k5.size
  have z6 := k6.size
  have z7 := k7.size
  refine st_of hS7 (by simp) rfl fun w8 hS8 k8 sz8 => ?_
  simp only [List.set_cons_zero] at hS8
  have k58 : Keep None w5 w8 := (k6.then0 k7).then1 k8 (by omega)
  have k08 := k05.then0 k58
  have hM38 := (hM3.keep0 k7).keep k8 (show r3 ≠ bS by omega)
  have hT8 := (hT4.keep0 k5).keep0 k58
  have hA8 := (hA4.keep0 k5).keep0 k58
  have hM18 := (hM14.keep0 k5).keep0 k58
  refine lp_of (fun s w' => ∃ (i : Nat) (fs : List (Int × Int)), s.1 = (i : Int) ∧ i ≤ m ∧ Keep (One r3) w8 w' ∧ Mp w' r3 fs ∧ ∀ o, (mget o fs = 1 ∧ o ∈ cs.take i) ∨ (mget o fs = 0 ∧ o ∉ cs.take i)) (fun s _ => (m - s.1).toNat)
    ⟨0, [], rfl, Nat.zero_le _, Keep.refl _ _, hM38, fun o => Or.inr ⟨rfl, by simp⟩⟩ ?_
  rintro ⟨i', ⟨⟩⟩ w9 ⟨i, fs, rfl, hi, k9, hM39, hfs⟩
  simp only []
  have z9 := k9.size
  have k09 : Keep None w w9 := k08.trans k9 fun j hj hh => by have : j = r3 := hh; omega
  have hT9 := blk_keepM hT8 hM38 k9
  have hA9 := blk_keepM hA8 hM38 k9
  have hS9 := blk_keepM hS8 hM38 k9
  have hM19 := hM18.keep k9 (show r1 ≠ r3 by omega)
  refine pif_of (fun hlt => ?_) fun hge => ?_
  · have hlt : i < m := by simpa using hlt
    rw [wrap_nat i (by omega)]
    refine (hC.keep0 k09).ix hlt fun a l hl1 ha => ldI_of ha (ldM_of (hS9.cell 0) (up_of u52 Try.underlying3 hM39 fun w10 hM10 k10 _ => ⟨⟨i + 1, _, rfl, hlt, k9.trans k10 fun j _ h => h, hM10, fun o => ?_⟩, by omega⟩))
    rw [mget_mput, take_snoc hl1]
    by_cases ho : o = l
    · rw [if_pos ho]; exact Or.inl ⟨rfl, by simp [ho]⟩
    · rw [if_neg ho]
      rcases hfs o with ⟨e, hmm⟩ | ⟨e, hnn⟩
      · exact Or.inl ⟨e, by simp [hmm]⟩
      · exact Or.inr ⟨e, by simp [hnn, ho]⟩
  have hge : i = m := by simp at hge; omega
  subst hge
  have hta : cs.take i = cs := by rw [← hcl, List.take_length]
  rw [hta] at hfs
  have hsp : Sp cs fs 0 := fun o => by
    rcases hfs o with ⟨e, hmm⟩ | ⟨e, hnn⟩
    · exact Or.inr (Or.inl ⟨e, hmm, by simp⟩)
    · exact Or.inr (Or.inr ⟨e, hnn⟩)
  refine mkmap_of fun r0 w10 hr0 hM0 k10 => alc_at fun bK w11 hbK hK11 k11 => ?_
  have lr0 := hM0.lt
  have lK := hK11.lt
  have z10 := k10.size
  have z11 := k11.size
  refine st_of hK11 (by simp) rfl fun w12 hK12 k12 sz12 => alc_at fun bF w13 hbF hF13 k13 => ?_
  simp only [List.set_cons_zero] at hK12
  have lF := hF13.lt
  have z13 := k13.size
  refine st_of hF13 (by simp) rfl fun w14 hF14 k14 sz14 => ?_
  simp only [List.set_cons_zero] at hF14
  have k912 : Keep None w9 w12 := (k10.then0 k11).then1 k12 (by omega)
  have k914 : Keep None w9 w14 := (k912.then0 k13).then1 k14 (by omega)
  have k014 := k09.then0 k914
  have hM014 : Mp w14 r0 [] := (((hM0.keep0 k11).keep k12 (show r0 ≠ bK by omega)).keep0 k13).keep k14 (show r0 ≠ bF by omega)
  have hEv : Ev w14 es cs bK bT bA bS bF r0 r1 r3 p n c fa fs :=
    ⟨(hK12.keep0 k13).keep k14 (show bK ≠ bF by omega), hT9.keep0 k914, hA9.keep0 k914, hS9.keep0 k914, hF14, hE.keep0 k014, hM19.keep0 k914, hM39.keep0 k914, by omega, by omega, hP, hsp.zero⟩
  have hN : bK < w14.heap.size ∧ bT < w14.heap.size ∧ bA < w14.heap.size ∧ bS < w14.heap.size ∧ bF < w14.heap.size ∧ r1 < w14.heap.size ∧ r3 < w14.heap.size := by omega
  have hr0N : r0 < w14.heap.size := hM014.lt
  have h13 : r1 ≠ r3 := by omega
  have old0 : w.heap.size ≤ r0 := by omega
  have old3 : w.heap.size ≤ r3 := by omega
  clear hK11 hK12 hF13 hF14 hT9 hA9 hS9 hM19 hM39 hT8 hA8 hM18 hM38 hS8 hS7 hM3 hT4 hA4 hM14 hA hM1 hT hM0
  obtain ⟨N, hNN⟩ : ∃ N, N = w14.heap.size := ⟨_, rfl⟩
  rw [← hNN] at hN hr0N
  have hwN : w.heap.size ≤ N := by have := k014.size; omega
  let Iv : Nat → (Option Addr × Nat × Nat) → World → Prop := fun k s w' => ∃ f fs, Keep None w w' ∧ N ≤ w'.heap.size ∧ Ev w' es cs bK bT bA bS bF r0 r1 r3 p n c fa fs ∧ Mp w' r0 f ∧ Kv es cs f n ∧ Sp cs fs k ∧ s.2.1 = (shr es cs k).length ∧ Own w' 3 1 s.1 (shr es cs k).length s.2.2 ((shr es cs k).map I) ∧ ∀ j, ob s.1 j → N ≤ j
  refine lp_of (fun s w' => ∃ k : Nat, s.2.1 = (k : Int) ∧ k ≤ i ∧ Iv k s.1 w') (fun s _ => (i - s.2.1).toNat)
    ⟨0, rfl, Nat.zero_le _, [], fs, k014, by omega, hEv, hM014, fun j y _ _ => Or.inl rfl, hsp, rfl, Own.nil _ _ _, fun j ⟨a, hh, _⟩ => by cases hh⟩ ?_
  rintro ⟨⟨g, gn, gc⟩, k', ⟨⟩⟩ w15 ⟨k, rfl, hk, f, fs, k15, hs15, hE15, hM15, hK15, hSp, hgn, hO, hob⟩
  simp only [] at hgn hO hob ⊢
  subst hgn
  have hshl := shr_len es cs k
  refine pif_of (fun hlt => ?_) fun hge => ?_
  · have hlt : k < i := by simpa using hlt
    rw [wrap_nat k (by omega)]
    obtain ⟨l, hl1⟩ := getE (show k < cs.length by omega)
    have hlm := List.mem_of_getElem? hl1
    have hfl : fl l = true := List.all_eq_true.1 hs l hlm
    obtain ⟨y, hym, hyl⟩ := hFa l hlm
    obtain ⟨a, hya⟩ := List.mem_iff_getElem?.1 hym
    have ha := (List.getElem?_eq_some_iff.1 hya).1
    have hny : neg y.lit = l := by rw [hyl, neg_neg hfl]
    refine ⟨fun t w' => Iv (k + 1) t.1 w', ?_, fun t w4 h4 => ⟨⟨k + 1, rfl, hlt, h4⟩, by omega⟩⟩
    refine (hC.keep0 k15).ix hlt fun ad l' hl' had => ldI_of had (ldM_of (hE15.st.cell 0) (lk_of u52 Try.underlying3 zz3 hE15.sm ?_))
    rw [hl1] at hl'
    injection hl' with hl'
    subst hl'
    by_cases hin : l ∈ cs.take k
    · have e2 : mget l fs = 2 := by
        rcases hSp l with ⟨e, _⟩ | ⟨_, _, h⟩ | ⟨_, h⟩
        · exact e
        · exact absurd hin h
        · exact absurd hlm h
      refine pif_t (by rw [e2]; rfl) ?_
      show Iv (k + 1) (g, (shr es cs k).length, gc) w15
      refine ⟨f, fs, k15, hs15, hE15, hM15, hK15, hSp.skip hl1 hin, ?_⟩
      rw [shr_no hl1 fun h => h.1 hin]
      exact ⟨rfl, hO, hob⟩
    · have e1 : mget l fs = 1 := by
        rcases hSp l with ⟨_, h⟩ | ⟨e, _⟩ | ⟨_, h⟩
        · exact absurd h hin
        · exact e
        · exact absurd hlm h
      refine pif_f (by rw [e1]; rfl) ?_
      refine ⟨fun t w' => ∃ f, Keep None w w' ∧ N ≤ w'.heap.size ∧ Ev w' es cs bK bT bA bS bF r0 r1 r3 p n c fa fs ∧ Mp w' r0 f ∧ Kv es cs f n ∧ t.1.2.1 = (shr es cs (k + 1)).length ∧ Own w' 3 1 t.1.1 (shr es cs (k + 1)).length t.1.2.2 ((shr es cs (k + 1)).map I) ∧ ∀ j, ob t.1.1 j → N ≤ j, ?_, ?_⟩
      · -- whether it stays
        have stay : ∀ {w16 : World} {f' : List (Int × Int)}, Kp es cs k l → Keep None w w16 → N ≤ w16.heap.size → Ev w16 es cs bK bT bA bS bF r0 r1 r3 p n c fa fs → Mp w16 r0 f' → Kv es cs f' n → Own w16 3 1 g (shr es cs k).length gc ((shr es cs k).map I) →
            alc w16 [.int .i64 l] 3 fun b78 w29 => ∃ (x79 : Option Addr) (x79n x79c : Nat), ∃ w30 : World, (Builtin.append_ #[26, 26] 26 #[.slice g (shr es cs k).length gc, .slice (some (⟨b78, 0, none⟩ : Addr)) 1 1]).run Try.prog w29 = .ok (.slice x79 x79n x79c) w30 ∧
            (∃ f, Keep None w w30 ∧ N ≤ w30.heap.size ∧ Ev w30 es cs bK bT bA bS bF r0 r1 r3 p n c fa fs ∧ Mp w30 r0 f ∧ Kv es cs f n ∧ x79n = (shr es cs (k + 1)).length ∧ Own w30 3 1 x79 (shr es cs (k + 1)).length x79c ((shr es cs (k + 1)).map I) ∧ ∀ j, ob x79 j → N ≤ j) := by
          intro w16 f' hkp k16 hs16 hE16 hM16 hK16 hO16
          refine app_one (t := 26) (B := 8) Try.underlying26 info3 rfl (by omega) rfl hO16 (by omega) fun p' c' w17 hO17 k17 hob17 => ?_
          have k017 : Keep None w w17 := k16.trans k17 fun j hj hh => by have := hob j hh; omega
          have z17 := k17.size
          rw [shr_yes hl1 hkp, List.length_append, List.map_append]
          refine ⟨f', k017, by omega, hE16.keepX k17 hob hN (hE.keep0 k017), hM16.keep k17 fun hh => by have := hob r0 hh; omega, hK16, rfl, hO17, fun j hj => ?_⟩
          rcases hob17 j hj with h | h
          · exact hob j h
          · omega
        have leave : ∀ {w16 : World} {f' : List (Int × Int)}, ¬ Kp es cs k l → Keep None w w16 → N ≤ w16.heap.size → Ev w16 es cs bK bT bA bS bF r0 r1 r3 p n c fa fs → Mp w16 r0 f' → Kv es cs f' n → Own w16 3 1 g (shr es cs k).length gc ((shr es cs k).map I) →
            (∃ f, Keep None w w16 ∧ N ≤ w16.heap.size ∧ Ev w16 es cs bK bT bA bS bF r0 r1 r3 p n c fa fs ∧ Mp w16 r0 f ∧ Kv es cs f n ∧ (shr es cs k).length = (shr es cs (k + 1)).length ∧ Own w16 3 1 g (shr es cs (k + 1)).length gc ((shr es cs (k + 1)).map I) ∧ ∀ j, ob g j → N ≤ j) := by
          intro w16 f' hkp k16 hs16 hE16 hM16 hK16 hO16
          rw [shr_no hl1 hkp]
          exact ⟨f', k16, hs16, hE16, hM16, hK16, rfl, hO16, hob⟩
        by_cases hk0 : k = 0
        · have e0 : ((k : Int) == 0) = true := by simp [hk0]
          have e1 : (!((k : Int) == 0)) = false := by rw [e0]; rfl
          have e2 : ∀ z : Bool, ((!((k : Int) == 0)) && z) = false := fun z => by rw [e1]; rfl
          exact gd_f e1 (gd_f e1 (gd_f e1 (gd_f e1 (gd_f e1 (gd_f (e2 _) (gd_f (e2 _) (pif_t (by rw [e0]; rfl) (stay ⟨hin, Or.inl hk0⟩ k15 hs15 hE15 hM15 hK15 hO))))))))
        · have e0 : ((k : Int) == 0) = false := by simpa using hk0
          have e1 : (!((k : Int) == 0)) = true := by rw [e0]; rfl
          have kpi := kp_iff (cl := cs) hF hfl hya hyl hk0 hin
          have hat : mget l fa = (a : Int) + 1 := by rw [← hny]; exact at_of hF hP hya
          have ea : IntKind.wrap .i64 ((a : Int) + 1 - 1) = (a : Int) := by rw [IntKind.wrap_i64]; omega
          refine gd_t e1 (ldC_of (hE15.tr.cell 0) (gd_t e1 (ldM_of (hE15.at'.cell 0) (gd_t e1 (lk_of u52 Try.underlying3 zz3 hE15.am (gd_t e1 ?_))))))
          rw [hat, ea]
          refine hE15.rd.ix hya fun ad ⟨_, _, _, _, c1, _⟩ => gd_t e1 (ldI_of c1 ?_)
          by_cases hlev : 0 < y.lev
          · have e2 : ((!((k : Int) == 0)) && decide (y.lev > 0)) = true := by rw [e1, decide_eq_true hlev]; rfl
            refine gd_t e2 (ldV_of (hE15.fn.cell 0) (gd_t e2 (clF_of ?_)))
            have go := covered44 (b0 := bK) (b1 := bT) (b2 := bA) (b3 := bS) (b4 := bF) (r0 := r0) (r1 := r1) (r3 := r3) (p := p) (n := n) (c := c) (fa := fa) (fs := fs) (cl := cs) hF hn hr a y w15 f hya hE15 hM15 (fun j y' hj hy' => hK15 j y' (by omega) hy')
            rw [hny] at go
            refine cl_of ok74 go fun e w16 ⟨v, he, b', f', hv, hb', hM16, hK16, hFr, k16⟩ => ⟨b', he.trans (congrArg Ending.returned hv), ?_⟩
            have k016 : Keep None w w16 := k15.trans k16 fun j hj hh => by have : j = r0 := hh; omega
            have hs16 : N ≤ w16.heap.size := by have := k16.size; omega
            have hE16 := hE15.keepM hM15 k16
            have hO16 : Own w16 3 1 g (shr es cs k).length gc ((shr es cs k).map I) := hO.keep k16 fun j hj hh => by have := hob j hj; have : j = r0 := hh; omega
            have hK16n : Kv es cs f' n := fun j y' hj hy' => by
              by_cases hle : j ≤ a
              · exact hK16 j y' hle hy'
              · rw [hFr (neg y'.lit) fun j2 y2 hj2 hy2 e => by have := lit_ne hF hy2 hy' e; omega]
                exact hK15 j y' hj hy'
            cases b' with
            | true => exact pif_f (by rw [e0, decide_eq_true hlev]; rfl) (leave (fun h => (kpi.1 h).2 (hb'.1 rfl)) k016 hs16 hE16 hM16 hK16n hO16)
            | false => exact pif_t (by rw [e0, decide_eq_true hlev]; rfl) (stay (kpi.2 ⟨hlev, fun h => by have := hb'.2 h; cases this⟩) k016 hs16 hE16 hM16 hK16n hO16)
          · have e2 : ((!((k : Int) == 0)) && decide (y.lev > 0)) = false := by rw [decide_eq_false hlev]; simp
            exact gd_f e2 (gd_f e2 (pif_f (by rw [e0, decide_eq_false hlev]; rfl) (leave (fun h => hlev (kpi.1 h).1) k15 hs15 hE15 hM15 hK15 hO)))
      · rintro ⟨⟨t, tn, tc⟩, ⟨⟩⟩ w16 ⟨f', k16, hs16, hE16, hM16, hK16, htn, hO16, hob16⟩
        simp only [] at htn hO16 hob16 ⊢
        refine ldM_of (hE16.st.cell 0) (up_of u52 Try.underlying3 hE16.sm fun w17 hM17 k17 _ => ?_)
        obtain ⟨hE17, hM017⟩ := hE16.put hM16 k17 hM17 h13 (hSp.next hl1).zero
        have z17 := k17.size
        refine ⟨f', _, k16.trans k17 fun j hj hh => by have : j = r3 := hh; omega, by omega, hE17, hM017, hK16, hSp.next hl1, htn, hO16.keep k17 fun j hj hh => ?_, hob16⟩
        have := hob16 j hj
        have : j = r3 := hh
        omega
  · have hge : k = i := by simp at hge; omega
    subst hge
    exact ⟨0, g, _, gc, _, rfl, hu, hO, fun j hj => by have := hob j hj; omega, fun _ => by rw [hcl], fun h => absurd rfl h, k15⟩
end
end Go.Proofs.Ytmhjehodfggleaa.Learn

/- What a clash teaches: levels, the steps back, the answer. -/
set_option linter.unusedVariables false
set_option linter.unusedSimpArgs false
set_option maxRecDepth 100000
namespace Go.Proofs.Ytmhjehodfggleaa.Learn
open Go Go.Proofs.Ytmhjehodfggleaa.Vc Go.Proofs.Ytmhjehodfggleaa.T
open Go.Proofs.Ytmhjehodfggleaa.Apart (RdL own_rdl wrap_nat getE own_len copy same take_snoc Sl sv)
open Go.Proofs.Ytmhjehodfggleaa.Lits (Td Srt)

theorem fl_eq (l : Int) : Lits.fl l = fl l := rfl
/-- the level of a literal that is false -/
def lvl (es : List En) (l : Int) : Int := match es.find? (fun x => decide (x.lit = neg l)) with | some x => x.lev | none => 0
section
variable {es : List En}
theorem lit_one (hF : Fm es) {i j : Nat} {x y : En} (hx : es[i]? = some x) (hy : es[j]? = some y) (h : x.lit = y.lit) : i = j :=
  lit_ne hF hx hy (by rw [h])
theorem lvl_of (hF : Fm es) {i : Nat} {x : En} {l : Int} (hx : es[i]? = some x) (hl : x.lit = neg l) : lvl es l = x.lev := by
  unfold lvl
  cases hf : es.find? (fun x => decide (x.lit = neg l)) with
  | none => exact absurd (by simpa using hl) (List.find?_eq_none.1 hf x (List.mem_of_getElem? hx))
  | some y =>
    have hp := List.find?_some hf
    obtain ⟨j, hj⟩ := List.mem_iff_getElem?.1 (List.mem_of_find?_eq_some hf)
    have hp : y.lit = neg l := by simpa using hp
    obtain rfl := lit_one hF hx hj (hl.trans hp.symm)
    rw [hx] at hj; injection hj with hj; rw [hj]
theorem lvl_none {l : Int} (h : ∀ y ∈ es, y.lit ≠ neg l) : lvl es l = 0 := by
  unfold lvl
  rw [List.find?_eq_none.2 fun y hy => by simpa using h y hy]
theorem lev_run (hF : Fm es) (hn : es.length ≤ 1048576) : ∀ (i : Nat) (x : En), es[i]? = some x → 0 ≤ x.lev ∧ x.lev ≤ (i : Int) + 1 ∧ ∀ (j : Nat) (y : En), j ≤ i → es[j]? = some y → y.lev ≤ x.lev := by
  intro i
  induction i with
  | zero =>
    intro x hx
    have h := (hF 0 x hx).2.2.1.1
    have e : lastLev (es.take 0) = 0 := rfl
    rw [e] at h
    have e2 : IntKind.wrap .i64 (0 + 1) = 1 := by decide +kernel
    rw [e2] at h
    refine ⟨by omega, by omega, fun j y hj hy => ?_⟩
    obtain rfl : j = 0 := by omega
    rw [hx] at hy; injection hy with hy; rw [hy]; exact Int.le_refl _
  | succ i ih =>
    intro x hx
    have hi := (List.getElem?_eq_some_iff.1 hx).1
    obtain ⟨z, hz⟩ := getE (show i < es.length by omega)
    obtain ⟨h0, h1, h2⟩ := ih z hz
    have h := (hF (i + 1) x hx).2.2.1.1
    rw [lastLev_snoc hz] at h
    have e2 : IntKind.wrap .i64 (z.lev + 1) = z.lev + 1 := by rw [IntKind.wrap_i64]; omega
    rw [e2] at h
    refine ⟨by omega, by omega, fun j y hj hy => ?_⟩
    rcases Nat.lt_or_ge j (i + 1) with hj2 | hj2
    · have := h2 j y (by omega) hy; omega
    · obtain rfl : j = i + 1 := by omega
      rw [hx] at hy; injection hy with hy; rw [hy]; exact Int.le_refl _
/-- the greatest entry of a level whose literal stands -/
structure Gt (es : List En) (top : Int) (S : Int → Prop) (i : Nat) (x : En) : Prop where
  at' : es[i]? = some x
  lev : x.lev = top
  mem : S (neg x.lit)
  last : ∀ (j : Nat) (y : En), i < j → es[j]? = some y → y.lev = top → ¬ S (neg y.lit)
def nxt (S : Int → Prop) (x : En) : Int → Prop := fun l => (S l ∧ l ≠ neg x.lit) ∨ (l ∈ x.rs ∧ l ≠ x.lit)
def Alone (es : List En) (top : Int) (S : Int → Prop) (x : En) : Prop := ∀ l, S l → lvl es l = top → l = neg x.lit
inductive Lrn (es : List En) (top : Int) : (Int → Prop) → Int → (Int → Prop) → Prop
  | done {S : Int → Prop} {i : Nat} {x : En} (h : Gt es top S i x) (ha : Alone es top S x) : Lrn es top S (neg x.lit) S
  | step {S F : Int → Prop} {i : Nat} {x : En} {o : Int} (h : Gt es top S i x) (ha : ¬ Alone es top S x) (hn : Lrn es top (nxt S x) o F) : Lrn es top S o F
theorem Gt.uniq {top : Int} {S : Int → Prop} {i j : Nat} {x y : En} (h : Gt es top S i x) (h' : Gt es top S j y) : x = y := by
  have : i = j := by
    rcases Nat.lt_trichotomy i j with hl | hl | hl
    · exact absurd h'.mem (h.last j y hl h'.at' h'.lev)
    · exact hl
    · exact absurd h.mem (h'.last i x hl h.at' h.lev)
  subst this
  have := h.at'
  rw [h'.at'] at this
  injection this with this
  exact this.symm
theorem Lrn.uniq {top : Int} {S F F' : Int → Prop} {o o' : Int} (h : Lrn es top S o F) (h' : Lrn es top S o' F') : o = o' ∧ F = F' := by
  induction h with
  | done h ha =>
    cases h' with
    | done h2 ha2 => rw [h.uniq h2]; exact ⟨rfl, rfl⟩
    | step h2 ha2 hn => rw [h.uniq h2] at ha; exact absurd ha ha2
  | step h ha hn ih =>
    cases h' with
    | done h2 ha2 => rw [h.uniq h2] at ha; exact absurd ha2 ha
    | step h2 ha2 hn2 => rw [← h.uniq h2] at hn2; exact ih hn2
/-- the greatest of some literals' levels -/
def Mx (es : List En) (M : Int → Prop) (b : Int) : Prop := (∀ l, M l → lvl es l ≤ b) ∧ 0 ≤ b ∧ (b = 0 ∨ ∃ l, M l ∧ lvl es l = b)
theorem Mx.uniq {M M' : Int → Prop} {b b' : Int} (h : Mx es M b) (h' : Mx es M' b') (hm : ∀ l, M l ↔ M' l) : b = b' := by
  obtain ⟨h1, h2, h3⟩ := h
  obtain ⟨g1, g2, g3⟩ := h'
  rcases h3 with rfl | ⟨l, hl, rfl⟩
  · rcases g3 with rfl | ⟨l, hl, rfl⟩
    · rfl
    · have := h1 l ((hm l).2 hl); omega
  · have := g1 l ((hm l).1 hl)
    rcases g3 with rfl | ⟨l', hl', rfl⟩
    · omega
    · have := h1 l' ((hm l').2 hl'); omega
theorem Mx.nil {M : Int → Prop} (h : ∀ l, ¬ M l) : Mx es M 0 := ⟨fun l hl => absurd hl (h l), Int.le_refl _, Or.inl rfl⟩
theorem Mx.add {M M' : Int → Prop} {b : Int} {l : Int} (h : Mx es M b) (hm : ∀ x, M' x ↔ M x ∨ x = l) (h0 : 0 ≤ lvl es l) : Mx es M' (if lvl es l > b then lvl es l else b) := by
  obtain ⟨h1, h2, h3⟩ := h
  split
  · rename_i hg
    refine ⟨fun x hx => ?_, h0, Or.inr ⟨l, (hm l).2 (Or.inr rfl), rfl⟩⟩
    rcases (hm x).1 hx with hx | rfl
    · have := h1 x hx; omega
    · exact Int.le_refl _
  · rename_i hg
    refine ⟨fun x hx => ?_, h2, ?_⟩
    · rcases (hm x).1 hx with hx | rfl
      · exact h1 x hx
      · omega
    · rcases h3 with h | ⟨x, hx, e⟩
      · exact Or.inl h
      · exact Or.inr ⟨x, (hm x).2 (Or.inl hx), e⟩
theorem Mx.same {M M' : Int → Prop} {b : Int} (h : Mx es M b) (hm : ∀ l, M' l ↔ M l) : Mx es M' b :=
  ⟨fun l hl => h.1 l ((hm l).1 hl), h.2.1, h.2.2.imp id fun ⟨l, hl, e⟩ => ⟨l, (hm l).2 hl, e⟩⟩
/-- the answer: the refusal's number, the level to go back to, the clause -/
def LSpec (es : List En) (cs : List Int) (u back : Int) (cl : List Int) : Prop :=
  Askd es cs u ∧ ((u ≠ 0 ∧ cl = [] ∧ back = 0) ∨ (u = 0 ∧ ∃ top, Mx es (· ∈ cs) top ∧ ((top = 0 ∧ cl = [] ∧ back = -1) ∨
    (0 < top ∧ ∃ o F L, Lrn es top (· ∈ cs) o F ∧ Td (fun l => F l ∧ l ≠ o ∧ 0 < lvl es l) L ∧ cl = o :: L ∧ Mx es (· ∈ L) back))))
theorem LSpec.uniq {cs : List Int} {u u' b b' : Int} {cl cl' : List Int} (h : LSpec es cs u b cl) (h' : LSpec es cs u' b' cl') : u = u' ∧ b = b' ∧ cl = cl' := by
  obtain ⟨ha, h⟩ := h
  obtain ⟨ha', h'⟩ := h'
  obtain rfl := ha.unique ha'
  refine ⟨rfl, ?_⟩
  rcases h with ⟨hu, rfl, rfl⟩ | ⟨hu, top, hM, h⟩ <;> rcases h' with ⟨hu', rfl, rfl⟩ | ⟨hu', top', hM', h'⟩
  · exact ⟨rfl, rfl⟩
  · exact absurd hu' hu
  · exact absurd hu hu'
  · obtain rfl := hM.uniq hM' fun l => Iff.rfl
    rcases h with ⟨ht, rfl, rfl⟩ | ⟨ht, o, F, L, hL, hT, rfl, hb⟩ <;> rcases h' with ⟨ht', rfl, rfl⟩ | ⟨ht', o', F', L', hL', hT', rfl, hb'⟩
    · exact ⟨rfl, rfl⟩
    · omega
    · omega
    · obtain ⟨rfl, rfl⟩ := hL.uniq hL'
      obtain rfl := hT.uniq hT' fun l _ => Iff.rfl
      exact ⟨hb.uniq hb' fun l => Iff.rfl, rfl⟩
theorem Lrn.sub {top : Int} {S F : Int → Prop} {o : Int} (hF : Fm es) (hr : ∀ x ∈ es, ∀ l ∈ x.rs, l ≠ x.lit → fl l = true ∧ ∃ y ∈ es, y.lit = neg l) (h : Lrn es top S o F) :
    (∀ l, S l → fl l = true ∧ ∃ y ∈ es, y.lit = neg l) → (∀ l, F l → fl l = true ∧ ∃ y ∈ es, y.lit = neg l) ∧ F o := by
  induction h with
  | done h ha => exact fun hS => ⟨hS, h.mem⟩
  | step h ha hn ih =>
    intro hS
    refine ih fun l hl => ?_
    rcases hl with ⟨hl, _⟩ | ⟨hl, hne⟩
    · exact hS l hl
    · exact hr _ (List.mem_of_getElem? h.at') l hl hne
theorem rs_ok (hF : Fm es) : ∀ x ∈ es, ∀ l ∈ x.rs, l ≠ x.lit → fl l = true ∧ ∃ y ∈ es, y.lit = neg l := by
  intro x hx l hl hne
  obtain ⟨i, hi⟩ := List.mem_iff_getElem?.1 hx
  have hr := (hF i x hi).2.2.2 (fun e => by rw [e] at hl; cases hl)
  obtain ⟨y, hy, e⟩ := hr.2.2 l hl hne
  exact ⟨List.all_eq_true.1 hr.1 l hl, y, (List.take_sublist _ _).subset hy, e⟩
theorem rs_ahead (hF : Fm es) {i : Nat} {x : En} (hx : es[i]? = some x) {l : Int} (hl : l ∈ x.rs) (hne : l ≠ x.lit) : ∃ j y, j < i ∧ es[j]? = some y ∧ y.lit = neg l := by
  have hr := (hF i x hx).2.2.2 (fun e => by rw [e] at hl; cases hl)
  obtain ⟨y, hy, e⟩ := hr.2.2 l hl hne
  obtain ⟨j, hj⟩ := List.mem_iff_getElem?.1 hy
  rw [List.getElem?_take] at hj
  split at hj
  · rename_i h; exact ⟨j, y, h, hj, e⟩
  · cases hj
theorem at_uniq (hF : Fm es) {i : Nat} {x : En} (hx : es[i]? = some x) {j : Nat} {y : En} {l : Int} (hy : es[j]? = some y) (hyl : y.lit = neg l) (hl : neg x.lit = l) : i = j := by
  have f1 := (hF i x hx).1
  exact lit_one hF hx hy (by rw [hyl, ← hl, neg_neg f1])
end
end Go.Proofs.Ytmhjehodfggleaa.Learn

/- The program's Learn. -/
set_option linter.unusedVariables false
set_option linter.unusedSimpArgs false
set_option maxRecDepth 100000
namespace Go.Proofs.Ytmhjehodfggleaa.Learn
open Go Go.Proofs.Ytmhjehodfggleaa.Vc Go.Proofs.Ytmhjehodfggleaa.T
open Go.Proofs.Ytmhjehodfggleaa.Apart (RdL own_rdl wrap_nat getE own_len copy same take_snoc Sl sv)
open Go.Proofs.Ytmhjehodfggleaa.Lits (Td Srt)

def keys (f : List (Int × Int)) : List Int := f.map fun p : Int × Int => p.1
structure In (f : List (Int × Int)) (S : Int → Prop) : Prop where
  nd : (keys f).Nodup
  mem : ∀ l, l ∈ keys f ↔ S l
  one : ∀ p ∈ f, p.2 = 1
theorem mget_in (l : Int) : ∀ {f : List (Int × Int)}, (∀ p ∈ f, p.2 = 1) → mget l f = if l ∈ keys f then 1 else 0 := by
  intro f
  induction f with
  | nil => intro _; rfl
  | cons p f ih =>
    intro h
    unfold mget
    by_cases hp : p.1 = l
    · rw [if_pos hp, h p (by simp), if_pos (by simp [keys, hp])]
    · rw [if_neg hp, ih fun q hq => h q (by simp [hq])]
      have : l ∈ keys (p :: f) ↔ l ∈ keys f := by
        simp only [keys, List.map_cons, List.mem_cons]
        exact ⟨fun h => h.elim (fun e => absurd e.symm hp) id, Or.inr⟩
      simp only [this]
theorem mput_mem {k v : Int} {p : Int × Int} : ∀ {f : List (Int × Int)}, p ∈ mput k v f → p ∈ f ∨ p = (k, v) := by
  intro f
  induction f with
  | nil => intro h; simp [mput] at h; exact Or.inr h
  | cons q f ih =>
    intro h
    unfold mput at h
    split at h
    · rcases List.mem_cons.1 h with h | h
      · exact Or.inr h
      · exact Or.inl (by simp [h])
    · rcases List.mem_cons.1 h with h | h
      · exact Or.inl (by simp [h])
      · exact (ih h).imp (fun h => by simp [h]) id
theorem mhas_keys (k : Int) : ∀ f : List (Int × Int), mhas k f = true ↔ k ∈ keys f := by
  intro f
  induction f with
  | nil => simp [mhas, keys]
  | cons p f ih =>
    simp only [mhas, Bool.or_eq_true, decide_eq_true_eq, ih, keys, List.map_cons, List.mem_cons]
    exact ⟨fun h => h.imp Eq.symm id, fun h => h.imp Eq.symm id⟩
theorem In.get {f : List (Int × Int)} {S : Int → Prop} (h : In f S) (l : Int) : (S l ∧ mget l f = 1) ∨ (¬ S l ∧ mget l f = 0) := by
  rw [mget_in l h.one]
  by_cases hl : S l
  · exact Or.inl ⟨hl, if_pos ((h.mem l).2 hl)⟩
  · exact Or.inr ⟨hl, if_neg fun hh => hl ((h.mem l).1 hh)⟩
theorem In.put {f : List (Int × Int)} {S : Int → Prop} (h : In f S) (l : Int) : In (mput l 1 f) (fun x => S x ∨ x = l) := by
  have hk : keys (mput l 1 f) = addS (keys f) l := mput_keys l 1 f
  refine ⟨?_, fun x => ?_, fun p hp => ?_⟩
  · rw [hk]
    unfold addS
    split
    · exact h.nd
    · rename_i hno
      rw [List.nodup_append]
      exact ⟨h.nd, by simp, fun a ha b hb => by simp at hb; subst hb; exact fun e => hno (e ▸ ha)⟩
  · rw [hk]
    unfold addS
    split
    · rename_i hin
      rw [h.mem]
      exact ⟨Or.inl, fun hh => hh.elim id fun e => by rw [e]; exact (h.mem l).1 hin⟩
    · rw [List.mem_append, List.mem_singleton, h.mem]
  · rcases mput_mem hp with hp | rfl
    · exact h.one p hp
    · rfl
theorem keys_del {k : Int} : ∀ {f : List (Int × Int)}, (keys f).Nodup → (keys (mdel k f)).Nodup ∧ (∀ l, l ∈ keys (mdel k f) ↔ l ∈ keys f ∧ l ≠ k) := by
  intro f
  induction f with
  | nil => intro _; exact ⟨List.nodup_nil, fun l => ⟨fun h => by simp [keys, mdel] at h, fun h => by simp [keys] at h⟩⟩
  | cons p f ih =>
    intro hn
    have hn' : p.1 ∉ keys f ∧ (keys f).Nodup := by simpa [keys] using hn
    unfold mdel
    split
    · rename_i hp
      refine ⟨hn'.2, fun l => ⟨fun h => ⟨by simp only [keys, List.map_cons, List.mem_cons]; exact Or.inr h, fun e => hn'.1 (by rw [hp, ← e]; exact h)⟩, fun ⟨h, hne⟩ => ?_⟩⟩
      simp only [keys, List.map_cons, List.mem_cons] at h
      exact h.elim (fun e => absurd (e.trans hp) hne) id
    · rename_i hp
      obtain ⟨h1, h2⟩ := ih hn'.2
      have e : keys (p :: mdel k f) = p.1 :: keys (mdel k f) := rfl
      have e2 : keys (p :: f) = p.1 :: keys f := rfl
      rw [e, e2]
      refine ⟨List.nodup_cons.2 ⟨fun h => hn'.1 ((h2 _).1 h).1, h1⟩, fun l => ?_⟩
      rw [List.mem_cons, List.mem_cons, h2]
      exact ⟨fun h => h.elim (fun e => ⟨Or.inl e, by rw [e]; exact hp⟩) fun h => ⟨Or.inr h.1, h.2⟩, fun ⟨h, hne⟩ => h.elim Or.inl fun h => Or.inr ⟨h, hne⟩⟩
theorem mdel_sub {k : Int} {p : Int × Int} : ∀ {f : List (Int × Int)}, p ∈ mdel k f → p ∈ f := by
  intro f
  induction f with
  | nil => intro h; cases h
  | cons q f ih =>
    intro h
    unfold mdel at h
    split at h
    · simp [h]
    · rcases List.mem_cons.1 h with h | h
      · simp [h]
      · simp [ih h]
theorem In.del {f : List (Int × Int)} {S : Int → Prop} (h : In f S) (l : Int) : In (mdel l f) (fun x => S x ∧ x ≠ l) :=
  ⟨(keys_del h.nd).1, fun x => by rw [(keys_del h.nd).2, h.mem], fun p hp => h.one p (mdel_sub hp)⟩
theorem In.iff {f : List (Int × Int)} {S S' : Int → Prop} (h : In f S) (hs : ∀ l, S' l ↔ S l) : In f S' := ⟨h.nd, fun l => by rw [h.mem, hs], h.one⟩
theorem In.len {f : List (Int × Int)} {S : Int → Prop} (h : In f S) (hf : ∀ l, S l → fl l = true) : f.length ≤ 2097153 := by
  have := pigeon (-1048576) 2097153 (keys f) h.nd fun x hx => by
    have := fl_iff.1 (hf x ((h.mem x).1 hx))
    omega
  simpa [keys] using this
/-- how many are of the level -/
def cnt (es : List En) (top : Int) (f : List (Int × Int)) : Nat := (f.filter fun p : Int × Int => decide (lvl es p.1 = top)).length
section
variable {es : List En} {top : Int} {f : List (Int × Int)} {S : Int → Prop}
theorem cnt_put (h : In f S) {l : Int} (hl : ¬ S l) : cnt es top (mput l 1 f) = cnt es top f + if lvl es l = top then 1 else 0 := by
  have hm : mhas l f = false := by
    rw [← Bool.not_eq_true, mhas_keys]; exact fun hh => hl ((h.mem l).1 hh)
  rw [mput_no hm]
  unfold cnt
  rw [List.filter_append, List.length_append]
  congr 1
  by_cases e : lvl es l = top
  · rw [if_pos e, List.filter_cons_of_pos (by simpa using e)]; rfl
  · rw [if_neg e, List.filter_cons_of_neg (by simpa using e)]; rfl
theorem cnt_del {l : Int} : ∀ {f : List (Int × Int)}, l ∈ keys f → cnt es top (mdel l f) + (if lvl es l = top then 1 else 0) = cnt es top f := by
  intro f
  induction f with
  | nil => intro h; simp [keys] at h
  | cons p f ih =>
    intro h
    unfold mdel
    by_cases hp : p.1 = l
    · rw [if_pos hp]
      unfold cnt
      by_cases e : lvl es l = top
      · rw [if_pos e, List.filter_cons_of_pos (by simpa [hp] using e)]; rfl
      · rw [if_neg e, List.filter_cons_of_neg (by simpa [hp] using e)]; rfl
    · rw [if_neg hp]
      have h' : l ∈ keys f := by
        simp only [keys, List.map_cons, List.mem_cons] at h
        exact h.elim (fun e => absurd e.symm hp) id
      have ih := ih h'
      unfold cnt at ih ⊢
      by_cases e : lvl es p.1 = top
      · rw [List.filter_cons_of_pos (by simpa using e), List.filter_cons_of_pos (by simpa using e), List.length_cons, List.length_cons]; omega
      · rw [List.filter_cons_of_neg (by simpa using e), List.filter_cons_of_neg (by simpa using e)]; exact ih
theorem cnt_pos (h : In f S) (hc : 1 ≤ cnt es top f) : ∃ l, S l ∧ lvl es l = top := by
  unfold cnt at hc
  obtain ⟨p, hp⟩ := getE (show 0 < (f.filter fun p : Int × Int => decide (lvl es p.1 = top)).length by omega)
  have hm := List.mem_filter.1 (List.mem_of_getElem? hp)
  exact ⟨p.1, (h.mem _).1 (List.mem_map.2 ⟨p, hm.1, rfl⟩), by simpa using hm.2⟩
theorem cnt_one (h : In f S) {l0 : Int} (h0 : S l0) (h1 : lvl es l0 = top) : cnt es top f = 1 ↔ ∀ l, S l → lvl es l = top → l = l0 := by
  have hnd : ((f.filter fun p : Int × Int => decide (lvl es p.1 = top)).map fun p : Int × Int => p.1).Nodup := h.nd.sublist ((List.filter_sublist ..).map _)
  have hmem : ∀ l, S l → lvl es l = top → l ∈ (f.filter fun p : Int × Int => decide (lvl es p.1 = top)).map fun p : Int × Int => p.1 := fun l hl ht => by
    obtain ⟨p, hp, rfl⟩ := List.mem_map.1 ((h.mem l).2 hl)
    exact List.mem_map.2 ⟨p, List.mem_filter.2 ⟨hp, by simpa using ht⟩, rfl⟩
  have hback : ∀ l ∈ (f.filter fun p : Int × Int => decide (lvl es p.1 = top)).map fun p : Int × Int => p.1, S l ∧ lvl es l = top := fun l hl => by
    obtain ⟨p, hp, rfl⟩ := List.mem_map.1 hl
    have := List.mem_filter.1 hp
    exact ⟨(h.mem _).1 (List.mem_map.2 ⟨p, this.1, rfl⟩), by simpa using this.2⟩
  have hGl : ((f.filter fun p : Int × Int => decide (lvl es p.1 = top)).map fun p : Int × Int => p.1).length = cnt es top f := by simp [cnt]
  rw [← hGl]
  clear hGl
  generalize (f.filter fun p : Int × Int => decide (lvl es p.1 = top)).map (fun p : Int × Int => p.1) = G at *
  constructor
  · intro hG l hl ht
    obtain ⟨g, rfl⟩ := List.length_eq_one_iff.1 hG
    have a := hmem l hl ht
    have b := hmem l0 h0 h1
    simp at a b
    rw [a, b]
  · intro hall
    match G, hnd, hback, hmem l0 h0 h1 with
    | [g], _, _, _ => rfl
    | a :: b :: t, hnd, hback, _ =>
      have e1 := hall a (hback a (by simp)).1 (hback a (by simp)).2
      have e2 := hall b (hback b (by simp)).1 (hback b (by simp)).2
      rw [e1, e2] at hnd
      simp at hnd
theorem cnt_perm {g : List (Int × Int)} (h : f.Perm g) : cnt es top f = cnt es top g := (h.filter _).length_eq
theorem cnt_cons (p : Int × Int) (g : List (Int × Int)) : cnt es top (p :: g) = cnt es top g + if lvl es p.1 = top then 1 else 0 := by
  unfold cnt
  by_cases e : lvl es p.1 = top
  · rw [if_pos e, List.filter_cons_of_pos (by simpa using e)]; rfl
  · rw [if_neg e, List.filter_cons_of_neg (by simpa using e)]; rfl
end
/-- what Learn answers -/
def Learnt (es : List En) (cs : List Int) (w : World) (v : Value) (w' : World) : Prop := ∃ (u back : Int) (g : Option Addr) (gn gc : Nat) (cl : List Int), v = .tuple #[.slice g gn gc, I back, I u] ∧ LSpec es cs u back cl ∧ Own w' 3 1 g gn gc (cl.map I) ∧ (∀ j, ob g j → w.heap.size ≤ j) ∧ Keep None w w'
section
variable {w w' : World} {p q : Option Addr} {n m c d : Nat} {es : List En} {cs : List Int}
/-- the closure's surroundings -/
structure Sr (w : World) (es : List En) (b2 b7 ra : Nat) (p : Option Addr) (n c : Nat) (fa : List (Int × Int)) : Prop where
  rd : RdE w p n es
  tr : Blk w b2 [.slice p n c] 83
  am : Blk w b7 [.map (some ra)] 125
  mp : Mp w ra fa
  pm : Pm fa es
theorem Sr.keep0 {b2 b7 ra : Nat} {fa : List (Int × Int)} (h : Sr w es b2 b7 ra p n c fa) (hk : Keep None w w') : Sr w' es b2 b7 ra p n c fa :=
  ⟨h.rd.keep0 hk, h.tr.keep0 hk, h.am.keep0 hk, h.mp.keep0 hk, h.pm⟩
theorem level47 {b2 b7 ra : Nat} {fa : List (Int × Int)} (hF : Fm es) (hn : n ≤ 1048576) (h : Sr w es b2 b7 ra p n c fa) {l : Int} (hl : fl l = true) (hm : ∃ y ∈ es, y.lit = neg l) {R : Ending → World → Prop}
    (hR : ∀ w', Keep None w w' → R (.returned (I (lvl es l))) w') :
    clF Try.prog (.func (.func 73) #[] #[.pointer (some (⟨b2, 0, none⟩ : Addr)), .pointer (some (⟨b7, 0, none⟩ : Addr))]) [I l] w R := by
  refine clF_of ⟨ok73, ?_⟩
  refine ((V73_calls l ⟨b2, 0, none⟩ ⟨b7, 0, none⟩ w (fun v w' => v = I (lvl es l) ∧ Keep None w w') ?_).mono fun e w' ⟨v, he, hv, hk⟩ => by rw [he, hv]; exact hR w' hk)
  unfold V73
  obtain ⟨y, hy, hyl⟩ := hm
  obtain ⟨i, hi⟩ := List.mem_iff_getElem?.1 hy
  have hat := at_of hF h.pm hi
  rw [hyl, neg_neg hl] at hat
  refine ldC_of (h.tr.cell 0) (ldM_of (h.am.cell 0) (lk_of u52 Try.underlying3 z3 h.mp ?_))
  have hlt := (List.getElem?_eq_some_iff.1 hi).1
  have hl := h.rd.len
  have e1 : IntKind.wrap .i64 ((i : Int) + 1 - 1) = (i : Int) := by rw [IntKind.wrap_i64]; omega
  rw [hat, e1]
  refine h.rd.ix hi fun a ⟨_, _, _, _, c1, _⟩ => ldI_of c1 ⟨?_, Keep.refl _ _⟩
  rw [lvl_of hF hi hyl]
theorem learn20 (hE : RdE w p n es) (hn : n ≤ 1048576) (hr : ∀ x ∈ es, x.rs.length ≤ 1048576) (hC : RdL w q m cs) (hm : m ≤ 1048576) :
    Calls Try.prog 43 #[.slice p n c, .slice q m d] w fun e w' => ∃ v, e = .returned v ∧ Learnt es cs w v w' := by
  refine V43_calls p n c q m d w (Learnt es cs w) ?_
  unfold V43
  have hcl := hC.len
  have hel := hE.len
  refine alc_at fun b2 w1 hb2 hB2 k1 => ?_
  refine ldC_of (hB2.cell 0) ?_
  refine cl_of ok71 (places40 (hE.keep0 k1) (by omega)) fun e w2 ⟨ra, fa, he, hra, hM, hP, k2⟩ => ⟨_, he, ?_⟩
  refine alc_at fun b7 w3 hb7 hB7 k3 => ?_
  simp only [add_mk, Nat.add_zero, Nat.zero_add]
  refine st_of hB7 (by simp) rfl fun w4 hB7 k4 e4 => ?_
  simp only [List.set_cons_zero] at hB7
  have k34 : Keep None w2 w4 := k3.then1 k4 (by omega)
  have hB2 := (hB2.keep0 k2).keep0 k34
  have hM := hM.keep0 k34
  have k04 := (k1.then0 k2).then0 k34
  refine ldC_of (hB2.cell 0) (ldM_of (hB7.cell 0) ?_)
  refine cl_of ok72 (asked43 (hE.keep0 k04) hn hr (hC.keep0 k04) hm hM hP) fun e w5 ⟨u, he, hu, k5⟩ => ⟨_, he, ?_⟩
  have k05 := k04.then0 k5
  by_cases hu0 : u = 0
  case neg =>
    exact pif_t (by simpa using hu0) ⟨u, 0, none, 0, 0, [], rfl, ⟨hu, Or.inl ⟨hu0, rfl, rfl⟩⟩, Own.nil _ _ _, (fun i ⟨a, h, _⟩ => by cases h), k05⟩
  subst hu0
  have hu' := hu
  obtain ⟨hFals, hF, hall⟩ : Fals es cs ∧ Fm es ∧ cs.all fl = true := by
    rcases hu with ⟨h, _⟩ | ⟨h, _⟩ | ⟨_, h⟩
    · cases h
    · cases h
    · exact h
  have hrun := lev_run hF (by omega)
  refine pif_f rfl ?_
  have hSr : Sr w5 es b2 b7 ra p n c fa := ⟨hE.keep0 k05, hB2.keep0 k5, hB7.keep0 k5, hM.keep0 k5, hP⟩
  have hok : ∀ l ∈ cs, fl l = true ∧ ∃ y ∈ es, y.lit = neg l := fun l hl => ⟨List.all_eq_true.1 hall l hl, hFals l hl⟩
  have lv0 : ∀ l, (∃ y ∈ es, y.lit = neg l) → 0 ≤ lvl es l := fun l ⟨y, hy, e⟩ => by
    obtain ⟨i, hi⟩ := List.mem_iff_getElem?.1 hy
    rw [lvl_of hF hi e]; exact (hrun i y hi).1
  refine mkmapS_of fun r w6 hrw hM6 k6 => ?_
  refine lp_of (fun s W => ∃ (i : Nat) (f : List (Int × Int)), s.2.1 = (i : Int) ∧ i ≤ m ∧ Mx es (· ∈ cs.take i) s.1 ∧ In f (· ∈ cs.take i) ∧ Ms W r f ∧ Keep None w5 W) (fun s _ => (m - s.2.1).toNat)
    ⟨0, [], rfl, Nat.zero_le _, Mx.nil (fun l (h : l ∈ cs.take 0) => by cases h), ⟨List.nodup_nil, fun l => by simp [keys], fun p h => by cases h⟩, hM6, k6⟩ ?_
  rintro ⟨top, i', ⟨⟩⟩ W ⟨i, f, rfl, hi, hMx, hIn, hMs, kW⟩
  simp only [] at hMx ⊢
  refine pif_of (fun hlt => ?_) fun hge => ?_
  · have hlt : i < m := by simpa using hlt
    rw [wrap_nat i (by omega)]
    refine (hC.keep0 (k05.then0 kW)).ix hlt fun a l hl ha => ldI_of ha ?_
    have hlo := hok l (List.mem_of_getElem? hl)
    refine level47 hF hn (hSr.keep0 kW) hlo.1 hlo.2 fun W1 k1' => ⟨_, rfl, ?_⟩
    refine upS_of u52 Try.underlying3 (hMs.keep0 k1') fun W2 hMs2 k2' z2 => ⟨⟨i + 1, mput l 1 f, rfl, hlt, ?_, ?_, hMs2, (kW.then0 k1').trans k2' fun j hj h => by have : j = r := h; omega⟩, by omega⟩
    · exact hMx.add (fun x => by rw [take_snoc hl, List.mem_append, List.mem_singleton]) (lv0 l hlo.2)
    · exact (hIn.put l).iff fun x => by rw [take_snoc hl, List.mem_append, List.mem_singleton]
  have hge : i = m := by simp at hge; omega
  subst hge
  rw [← hcl, List.take_length] at hMx hIn
  by_cases ht0 : top = 0
  · subst ht0
    exact pif_t rfl ⟨0, -1, none, 0, 0, [], rfl, ⟨hu', Or.inr ⟨rfl, 0, hMx, Or.inl ⟨rfl, rfl, rfl⟩⟩⟩, Own.nil _ _ _, (fun i ⟨a, h, _⟩ => by cases h), k05.then0 kW⟩
  have htop : 0 < top := by have := hMx.2.1; omega
  refine pif_f (by simpa using ht0) ?_
  have hwr : w5.heap.size ≤ r := by omega
  refine range_of u52 hMs fun q37 w10 hq37 hIt k10 => ?_
  have sz10 := kW.size
  have hq5 : w5.heap.size ≤ q37 := by omega
  -- how many are of the greatest level
  refine lp_of (fun s V => ∃ (k : Nat) (todo : List (Int × Int)), s.1 = (k : Int) ∧ It V q37 r f todo ∧ k + cnt es top todo = cnt es top f ∧ (∀ p ∈ todo, p ∈ f) ∧ Keep None w5 V ∧ w10.heap.size ≤ V.heap.size) (fun s V => leftM V r q37)
    ⟨0, f, rfl, hIt, by omega, fun p h => h, kW.then0 k10, Nat.le_refl _⟩ ?_
  rintro ⟨v38, ⟨⟩⟩ V ⟨k, todo, rfl, hItV, hk, hsub, kV, szV⟩
  simp only []
  have flen := hIn.len fun l hl => (hok l hl).1
  have klt : k ≤ f.length := by
    have : cnt es top f ≤ f.length := List.length_filter_le ..
    omega
  refine next_of hItV hItV.ne (fun h0 => ?_) fun p0 todo' V' hp0 hperm hIt' kq sq hent => ?_
  case _ =>
    -- on to the steps back
    subst h0
    have hkc : k = cnt es top f := by simpa [cnt] using hk
    subst hkc
    refine pif_f rfl (ldC_of ((hSr.keep0 kV).tr.cell 0) ?_)
    have hcpos : 1 ≤ cnt es top f := by
      rcases hMx.2.2 with h | ⟨l, hl, e⟩
      · omega
      · have h1 : cnt es top (mdel l f) + (if lvl es l = top then 1 else 0) = cnt es top f := cnt_del ((hIn.mem l).2 hl)
        rw [if_pos e] at h1; omega
    have eN : IntKind.wrap .i64 ((n : Int) - 1) = (n : Int) - 1 := by rw [IntKind.wrap_i64]; omega
    rw [eN]
    refine lp_of (fun s X => ∃ (f : List (Int × Int)) (S : Int → Prop), s.1 = (cnt es top f : Nat) ∧ -1 ≤ s.2.1 ∧ s.2.1 < n ∧ In f S ∧ (∀ l, S l → fl l = true ∧ ∃ y ∈ es, y.lit = neg l) ∧ (∀ l, S l → lvl es l ≤ top) ∧ 1 ≤ cnt es top f ∧
        (∀ (j : Nat) (y : En), s.2.1 < (j : Int) → es[j]? = some y → y.lev = top → ¬ S (neg y.lit)) ∧ (∀ o F, Lrn es top S o F → Lrn es top (· ∈ cs) o F) ∧ Ms X r f ∧ Keep None w5 X) (fun s _ => (s.2.1 + 1).toNat)
      ⟨f, (· ∈ cs), rfl, by show -1 ≤ (n : Int) - 1; omega, by show (n : Int) - 1 < n; omega, hIn, hok, hMx.1, hcpos, fun j y hj hy => ?_, fun o F h => h, hItV.ms, kV⟩ ?_
    · have := (List.getElem?_eq_some_iff.1 hy).1
      have : (n : Int) - 1 < j := hj
      omega
    clear hIn hMs hk hIt hItV hsub klt flen hcpos kV kW k10 hq37 sz10 szV hrw
    rintro ⟨v54, v55, ⟨⟩⟩ X ⟨f, S, rfl, hi0, hin, hIn, hS, hSl, hcpos, hbeh, hLr, hMs, kX⟩
    simp only [] at hi0 hin hbeh ⊢
    obtain ⟨i, rfl⟩ : ∃ i : Nat, v55 = (i : Int) := by
      obtain ⟨l, hl, e⟩ := cnt_pos hIn hcpos
      obtain ⟨hfl, y, hy, hyl⟩ := hS l hl
      obtain ⟨j, hj⟩ := List.mem_iff_getElem?.1 hy
      rw [lvl_of hF hj hyl] at e
      have hny : neg y.lit = l := by rw [hyl, neg_neg hfl]
      have : ¬ v55 < (j : Int) := fun h => hbeh j y h hj e (by rw [hny]; exact hl)
      exact ⟨v55.toNat, by omega⟩
    obtain ⟨x, hx⟩ := getE (show i < es.length by omega)
    have hxf := (hF i x hx).1
    have hxm := List.mem_of_getElem? hx
    have eI : IntKind.wrap .i64 ((i : Int) - 1) = (i : Int) - 1 := by rw [IntKind.wrap_i64]; omega
    refine jn_of ?_
    have hSX := hSr.keep0 kX
    refine ldC_of (hSX.tr.cell 0) (hSX.rd.ix hx fun a0 ⟨_, _, _, c0, c1, c2, hq0⟩ => ldI_of c0 (lk_of u52 Try.underlying3 z3 hMs.mp ?_))
    have goOn : (x.lev = top → ¬ S (neg x.lit)) → (∃ (g : List (Int × Int)) (S : Int → Prop), ((cnt es top f : Nat) : Int) = (cnt es top g : Nat) ∧ -1 ≤ (i : Int) - 1 ∧ (i : Int) - 1 < n ∧ In g S ∧ (∀ l, S l → fl l = true ∧ ∃ y ∈ es, y.lit = neg l) ∧ (∀ l, S l → lvl es l ≤ top) ∧ 1 ≤ cnt es top g ∧
        (∀ (j : Nat) (y : En), (i : Int) - 1 < (j : Int) → es[j]? = some y → y.lev = top → ¬ S (neg y.lit)) ∧ (∀ o F, Lrn es top S o F → Lrn es top (· ∈ cs) o F) ∧ Ms X r g ∧ Keep None w5 X) ∧ ((i : Int) - 1 + 1).toNat < ((i : Int) + 1).toNat := by
      intro hno
      refine ⟨⟨f, S, rfl, by omega, by omega, hIn, hS, hSl, hcpos, fun j y hj hy hyt => ?_, hLr, hMs, kX⟩, by omega⟩
      by_cases hji : (i : Int) < j
      · exact hbeh j y hji hy hyt
      · obtain rfl : j = i := by omega
        rw [hx] at hy; injection hy with hy; subst hy
        exact hno hyt
    rcases hIn.get (neg x.lit) with ⟨hSx, e1⟩ | ⟨hSx, e1⟩
    case inr =>
      rw [show mget (IntKind.wrap .i64 (0 - x.lit)) f = 0 from e1]
      refine gd_f rfl (gd_f rfl (gd_f rfl (pif_t rfl ?_)))
      rw [eI]
      exact goOn fun _ => hSx
    rw [show mget (IntKind.wrap .i64 (0 - x.lit)) f = 1 from e1]
    refine gd_t rfl (ldC_of (hSX.tr.cell 0) (gd_t rfl (hSX.rd.ix hx fun a1 ⟨_, _, _, _, d1, _⟩ => gd_t rfl (ldI_of d1 ?_))))
    by_cases hlev : x.lev = top
    case neg =>
      refine pif_t (by simpa using hlev) ?_
      rw [eI]
      exact goOn fun h => absurd h hlev
    refine pif_f (by simp [hlev]) ?_
    have hGt : Gt es top S i x := ⟨hx, hlev, hSx, fun j y hj hy hyt => hbeh j y (by omega) hy hyt⟩
    have hlx : lvl es (neg x.lit) = top := by rw [lvl_of hF hx (neg_neg hxf).symm]; exact hlev
    have h1 := cnt_one hIn hSx hlx
    have flen := hIn.len fun l hl => (hS l hl).1
    by_cases hc1 : cnt es top f = 1
    · -- one alone is left
      refine pif_t (by simp [hc1]) ?_
      have hAl : Alone es top S x := h1.1 hc1
      have hL := hLr _ _ (Lrn.done hGt hAl)
      refine range_of u52 hMs fun q79 w21 hq79 hIt k21 => ?_
      have szX := kX.size
      have hrX := hMs.lt
      refine lp_of (fun s V => ∃ (todo : List (Int × Int)) (os : List Int), It V q79 r f todo ∧ s.2.1.2.1 = os.length ∧ os.length + todo.length ≤ f.length ∧ Own V 3 1 s.2.1.1 s.2.1.2.1 s.2.1.2.2 (os.map I) ∧ (∀ j, ob s.2.1.1 j → q79 < j) ∧ Keep None w5 V ∧ q79 < V.heap.size ∧
          (keys todo).Nodup ∧ (∀ l, l ∈ os ↔ (S l ∧ l ∉ keys todo) ∧ l ≠ neg x.lit ∧ 0 < lvl es l) ∧ (∀ p ∈ todo, p ∈ f) ∧ Mx es (· ∈ os) s.1) (fun s V => leftM V r q79)
        ⟨f, [], hIt, rfl, by simp, Own.nil _ _ _, (fun i ⟨a, h, _⟩ => by cases h), kX.then0 k21, by have := hIt.lt; omega, hIn.nd, (fun l => ⟨(fun h => by cases h), fun h => absurd ((hIn.mem l).2 h.1.1) h.1.2⟩), (fun p h => h), Mx.nil (fun l (h : l ∈ ([] : List Int)) => by cases h)⟩ ?_
      rintro ⟨bk, ⟨v81, v81n, v81c⟩, ⟨⟩⟩ V ⟨todo, os, hItV, hosn, hlen, hO, hfr, kV, hqV, hnd, hos, hsub, hMxo⟩
      simp only [] at hosn hO hfr hMxo ⊢
      refine next_of hItV hItV.ne (fun h0 => ?_) fun p0 todo' V' hp0 hperm hIt' kq sq hent => ?_
      · -- all are gone through
        subst h0
        refine pif_f rfl (alc_at fun b102 w30 hb102 hB102 k30 => ?_)
        have hO30 := hO.keep0 k30
        refine cl_of ok27 (Lits.tidyP (own_rdl hO30) (by omega)) fun e w31 ⟨v, L, he, hT, g, gc, hv, hOg, hgf, k31⟩ => ⟨_, _, _, he.trans (congrArg Ending.returned hv), ?_⟩
        have hTl := hT.len
        have hB31 := hB102.keep0 k31
        have hOne : Own w31 3 1 (some ⟨b102, 0, none⟩) 1 1 [I (neg x.lit)] := Or.inr ⟨b102, _, rfl, hB31, Nat.le_refl _, by simp only [maxLen]; omega, rfl, rfl⟩
        refine app_of (e := 3) (sz := 1) (z := I 0) (B := 8) Try.underlying26 (by kernel_rfl) rfl (by omega) hOne hOg.news (fun u hu => ?_) (by simp only [maxLen]; omega) (by omega) fun p' c' w32 hO32 kk hpp => ?_
        · obtain ⟨y, _, rfl⟩ := List.mem_map.1 hu; rfl
        have szV := kV.size
        have sz30 := k30.size
        have sz31 := k31.size
        have kE : Keep None w5 w32 := ((kV.then0 k30).then0 k31).trans kk fun j hj ⟨a, h, h'⟩ => by cases h; simp only [] at h'; omega
        have sz5 := k05.size
        refine ⟨0, bk, p', 1 + L.length, c', neg x.lit :: L, rfl, ⟨hu', Or.inr ⟨rfl, top, hMx, Or.inr ⟨htop, neg x.lit, S, L, hL, ⟨hT.srt, fun l => ?_⟩, rfl, ?_⟩⟩⟩, hO32, fun j hj => ?_, k05.then0 kE⟩
        · rw [hT.mem, hos]
          simp only [keys, List.map_nil, List.not_mem_nil, not_false_eq_true, and_true]
        · refine hMxo.same fun l => ?_
          rw [hT.mem]
          exact ⟨fun h => h.1, fun h => ⟨h, (hS l ((hos l).1 h).1.1).1⟩⟩
        · rcases hpp j hj with ⟨a, h, h'⟩ | h
          · cases h; simp only [] at h'; omega
          · omega
      · refine pif_t rfl ⟨_, _, _, hent, ?_⟩
        have hp0S : S p0.1 := (hIn.mem _).1 (List.mem_map.2 ⟨p0, hsub p0 hp0, rfl⟩)
        obtain ⟨hpf, hpe⟩ := hS _ hp0S
        have kV' : Keep None w5 V' := kV.trans kq fun j hj h => by have : j = q79 := h; omega
        have hnd' : p0.1 ∉ keys todo' ∧ (keys todo').Nodup := by
          have := (hperm.map fun p : Int × Int => p.1).nodup_iff.1 hnd
          simpa [keys] using this
        have hkp : ∀ l, l ∈ keys todo ↔ l = p0.1 ∨ l ∈ keys todo' := fun l => by
          have := (hperm.map fun p : Int × Int => p.1).mem_iff (a := l)
          simpa [keys] using this
        have hlen' : todo.length = todo'.length + 1 := by have := hperm.length_eq; simpa using this
        have hsub' : ∀ p ∈ todo', p ∈ f := fun p hp => hsub p (hperm.mem_iff.2 (by simp [hp]))
        have hO' : Own V' 3 1 v81 v81n v81c (os.map I) := hO.keep kq fun j hj h => by have := hfr j hj; have : j = q79 := h; omega
        have hqV' : q79 < V'.heap.size := by omega
        have lft : ∀ {Y : World}, It Y q79 r f todo' → leftM Y r q79 < leftM V r q79 := fun h => by rw [h.left, hItV.left]; omega
        have skip : ∀ {Y : World}, Keep None V' Y → (p0.1 = neg x.lit ∨ ¬ 0 < lvl es p0.1) → (∃ (todo : List (Int × Int)) (os' : List Int), It Y q79 r f todo ∧ v81n = os'.length ∧ os'.length + todo.length ≤ f.length ∧ Own Y 3 1 v81 v81n v81c (os'.map I) ∧ (∀ j, ob v81 j → q79 < j) ∧ Keep None w5 Y ∧ q79 < Y.heap.size ∧
            (keys todo).Nodup ∧ (∀ l, l ∈ os' ↔ (S l ∧ l ∉ keys todo) ∧ l ≠ neg x.lit ∧ 0 < lvl es l) ∧ (∀ p ∈ todo, p ∈ f) ∧ Mx es (· ∈ os') bk) ∧ leftM Y r q79 < leftM V r q79 := by
          intro Y kY hno
          have hItY := hIt'.keep0 kY
          refine ⟨⟨todo', os, hItY, hosn, by omega, hO'.keep0 kY, hfr, kV'.then0 kY, by have := kY.size; omega, hnd'.2, fun l => ?_, hsub', hMxo⟩, lft hItY⟩
          rw [hos]
          refine ⟨fun ⟨⟨a, b⟩, h⟩ => ⟨⟨a, fun hh => b ((hkp l).2 (Or.inr hh))⟩, h⟩, fun ⟨⟨a, b⟩, h⟩ => ⟨⟨a, fun hh => ?_⟩, h⟩⟩
          rcases (hkp l).1 hh with rfl | hh
          · rcases hno with e | e
            · exact h.1 e
            · exact e h.2
          · exact b hh
        show gd (p0.1 != neg x.lit) _ _ _ _
        by_cases hpx : p0.1 = neg x.lit
        · have e0 : (p0.1 != neg x.lit) = false := by simp [hpx]
          refine gd_f e0 (pif_f (by show cond (p0.1 != neg x.lit) _ _ = _; rw [e0]; rfl) ?_)
          exact skip (Keep.refl _ _) (Or.inl hpx)
        have e0 : (p0.1 != neg x.lit) = true := by simpa using hpx
        refine gd_t e0 (level47 hF hn (hSr.keep0 kV') hpf hpe fun V2 k2' => ⟨_, rfl, ?_⟩)
        show pif (cond (p0.1 != neg x.lit) (decide (lvl es p0.1 > 0)) false) _ _
        rw [e0]
        by_cases hl0 : 0 < lvl es p0.1
        case neg =>
          refine pif_f (by simpa using hl0) ?_
          exact skip k2' (Or.inr hl0)
        refine pif_t (by simpa using hl0) ?_
        refine alc_at fun b96 V3 hb96 hB96 k3' => ?_
        have hO3 := (hO'.keep0 k2').keep0 k3'
        refine app_of2 (e := 3) (sz := 1) (z := I 0) (B := 8) Try.underlying26 (by kernel_rfl) rfl (by omega) hO3 hB96.news1 (fun u hu => ?_) (by simp only [maxLen]; omega) (by omega) fun p' c' V4 hO4 hd4 => ?_
        · simp only [List.mem_singleton] at hu; subst hu; rfl
        have sz2 := k2'.size
        have sz3 := k3'.size
        have hK4 : Keep (fun j => q79 < j) V3 V4 ∧ ∀ j, ob p' j → q79 < j := by
          rcases hd4 with ⟨x1, _, _, x2⟩ | ⟨x1, x2⟩
          · exact ⟨x2.mono fun i _ hi => hfr i hi, fun i hi => by rw [x1] at hi; exact hfr i hi⟩
          · exact ⟨x2.none, fun i hi => by have := x1 i hi; omega⟩
        have kV4 : Keep None w5 V4 := ((kV'.then0 k2').then0 k3').trans hK4.1 fun j hj h => by have : q79 < j := h; omega
        have hIt4 : It V4 q79 r f todo' := ((hIt'.keep0 k2').keep0 k3').keep hK4.1 (fun h => by have : q79 < q79 := h; omega) fun h => by have : q79 < r := h; omega
        refine level47 hF hn (hSr.keep0 kV4) hpf hpe fun V5 k5' => ⟨_, rfl, ?_⟩
        have hItY := hIt4.keep0 k5'
        have sz4 := hK4.1.size
        have sz5' := k5'.size
        refine ⟨⟨todo', os ++ [p0.1], hItY, by simp [hosn], by simp; omega, ?_, hK4.2, kV4.then0 k5', by omega, hnd'.2, fun l => ?_, hsub', ?_⟩, lft hItY⟩
        · rw [List.map_append]; exact hO4.keep0 k5'
        · rw [List.mem_append, List.mem_singleton, hos]
          constructor
          · rintro (⟨⟨a, b⟩, h⟩ | rfl)
            · exact ⟨⟨a, fun hh => b ((hkp l).2 (Or.inr hh))⟩, h⟩
            · exact ⟨⟨hp0S, hnd'.1⟩, hpx, hl0⟩
          · rintro ⟨⟨a, b⟩, h⟩
            by_cases e : l = p0.1
            · exact Or.inr e
            · exact Or.inl ⟨⟨a, fun hh => ((hkp l).1 hh).elim e b⟩, h⟩
        · exact hMxo.add (fun l => by rw [List.mem_append, List.mem_singleton]) (by omega)
    · -- a step back
      refine pif_f (by simp; omega) ?_
      have hAl : ¬ Alone es top S x := fun h => hc1 (h1.2 h)
      have hdk : (neg x.lit) ∈ keys f := (hIn.mem _).2 hSx
      have hcd : cnt es top (mdel (neg x.lit) f) + (if lvl es (neg x.lit) = top then 1 else 0) = cnt es top f := cnt_del hdk
      rw [if_pos hlx] at hcd
      have eC : IntKind.wrap .i64 (((cnt es top f : Nat) : Int) - 1) = ((cnt es top (mdel (neg x.lit) f) : Nat) : Int) := by
        have : cnt es top f ≤ f.length := List.length_filter_le ..
        rw [IntKind.wrap_i64]; omega
      rw [eC]
      refine del_of u52 Try.underlying3 hMs fun X1 hMs1 k1' z1' => ?_
      have hwrX : ∀ {j : Nat}, One r j → w5.heap.size ≤ j := fun h => by have : _ = r := h; omega
      have kX1 : Keep None w5 X1 := kX.trans k1' fun j hj h => by have := hwrX h; omega
      have hSX1 := hSr.keep0 kX1
      refine ldC_of (hSX1.tr.cell 0) (hSX1.rd.ix hx fun a2 ⟨rq, rn, rc, _, _, d2, hrq⟩ => ldC_of d2 ?_)
      have hrl := hrq.len
      have hrn := hr x hxm
      refine lp_of (fun s Y => ∃ (j : Nat) (g : List (Int × Int)), s.2.1 = (j : Int) ∧ j ≤ rn ∧ s.1 = (cnt es top g : Nat) ∧ In g (fun l => (S l ∧ l ≠ neg x.lit) ∨ (l ∈ x.rs.take j ∧ l ≠ x.lit)) ∧ 1 ≤ cnt es top g ∧ Ms Y r g ∧ Keep None w5 Y ∧ Keep (One r) X1 Y) (fun s _ => (rn - s.2.1).toNat)
        ⟨0, _, rfl, Nat.zero_le _, rfl, (hIn.del (neg x.lit)).iff fun l => by simp, by omega, hMs1, kX1, Keep.refl _ _⟩ ?_
      rintro ⟨v112, j', ⟨⟩⟩ Y ⟨j, g, rfl, hj, rfl, hIng, hcg, hMg, kY, kXY⟩
      simp only []
      have hSnx : ∀ {k : Nat} (l : Int), (S l ∧ l ≠ neg x.lit) ∨ (l ∈ x.rs.take k ∧ l ≠ x.lit) → fl l = true ∧ ∃ y ∈ es, y.lit = neg l := fun l h => by
        rcases h with h | h
        · exact hS l h.1
        · exact rs_ok hF x hxm l ((List.take_sublist _ _).subset h.1) h.2
      have glen := hIng.len fun l hl => (hSnx l hl).1
      have gcl : cnt es top g ≤ g.length := List.length_filter_le ..
      refine pif_of (fun hlt => ?_) fun hge => ?_
      · have hlt : j < rn := by simpa using hlt
        refine jn_of ?_
        rw [wrap_nat j (by omega)]
        have hSY := hSr.keep0 kY
        have hrqY : RdL Y rq rn x.rs := rdl_keepM hrq hMs1.mp kXY
        refine hrqY.ix hlt fun a3 l hl ha => ldI_of ha (ldC_of (hSY.tr.cell 0) (hSY.rd.ix hx fun a4 ⟨_, _, _, c4, _⟩ => ldI_of c4 ?_))
        have hlm := List.mem_of_getElem? hl
        have tk : ∀ l', l' ∈ x.rs.take (j + 1) ↔ l' ∈ x.rs.take j ∨ l' = l := fun l' => by rw [take_snoc hl, List.mem_append, List.mem_singleton]
        by_cases hlx : l = x.lit
        · have e0 : (l != x.lit) = false := by simp [hlx]
          refine gd_f e0 (pif_f (by rw [e0]; rfl) ⟨⟨j + 1, g, rfl, hlt, rfl, hIng.iff fun l' => ?_, hcg, hMg, kY, kXY⟩, by omega⟩)
          rw [tk]
          exact ⟨fun h => h.imp id fun ⟨a, b⟩ => ⟨a.elim id fun e => absurd (e.trans hlx) b, b⟩, fun h => h.imp id fun ⟨a, b⟩ => ⟨Or.inl a, b⟩⟩
        have e0 : (l != x.lit) = true := by simpa using hlx
        refine gd_t e0 (lk_of u52 Try.underlying3 z3 hMg.mp ?_)
        show pif (cond (l != x.lit) (mget l g == 0) false) _ _
        rw [e0]
        rcases hIng.get l with ⟨hin, e2⟩ | ⟨hin, e2⟩
        · rw [e2]
          refine pif_f rfl ⟨⟨j + 1, g, rfl, hlt, rfl, hIng.iff fun l' => ?_, hcg, hMg, kY, kXY⟩, by omega⟩
          rw [tk]
          refine ⟨fun h => ?_, fun h => h.imp id fun ⟨a, b⟩ => ⟨Or.inl a, b⟩⟩
          rcases h with h | ⟨a | rfl, b⟩
          · exact Or.inl h
          · exact Or.inr ⟨a, b⟩
          · exact hin
        · rw [e2]
          refine pif_t rfl (upS_of u52 Try.underlying3 hMg fun Y1 hMg1 k1'' z1'' => ?_)
          have kY1 : Keep None w5 Y1 := kY.trans k1'' fun j hj h => by have := hwrX h; omega
          obtain ⟨hlf, hle⟩ := rs_ok hF x hxm l hlm hlx
          refine level47 hF hn (hSr.keep0 kY1) hlf hle fun Y2 k2'' => ⟨_, rfl, ?_⟩
          have hcp := cnt_put (es := es) (top := top) hIng hin
          have nx : In (mput l 1 g) (fun l' => (S l' ∧ l' ≠ neg x.lit) ∨ (l' ∈ x.rs.take (j + 1) ∧ l' ≠ x.lit)) := (hIng.put l).iff fun l' => by
            rw [tk]
            constructor
            · rintro (h | ⟨a | rfl, b⟩)
              · exact Or.inl (Or.inl h)
              · exact Or.inl (Or.inr ⟨a, b⟩)
              · exact Or.inr rfl
            · rintro ((h | h) | rfl)
              · exact Or.inl h
              · exact Or.inr ⟨Or.inl h.1, h.2⟩
              · exact Or.inr ⟨Or.inr rfl, hlx⟩
          have kXY2 : Keep (One r) X1 Y2 := (kXY.trans k1'' fun _ _ h => h).then0 k2''
          refine pif_of (fun ht => ?_) fun ht => ?_
          · have ht : lvl es l = top := by simpa using ht
            rw [if_pos ht] at hcp
            have eK : IntKind.wrap .i64 (((cnt es top g : Nat) : Int) + 1) = ((cnt es top (mput l 1 g) : Nat) : Int) := by rw [IntKind.wrap_i64]; omega
            rw [eK]
            exact ⟨⟨j + 1, _, rfl, hlt, rfl, nx, by omega, hMg1.keep0 k2'', kY1.then0 k2'', kXY2⟩, by omega⟩
          · have ht : ¬ lvl es l = top := by simpa using ht
            rw [if_neg ht] at hcp
            have eK : ((cnt es top g : Nat) : Int) = ((cnt es top (mput l 1 g) : Nat) : Int) := by omega
            rw [eK]
            exact ⟨⟨j + 1, _, rfl, hlt, rfl, nx, by omega, hMg1.keep0 k2'', kY1.then0 k2'', kXY2⟩, by omega⟩
      · have hge : j = rn := by simp at hge; omega
        subst hge
        rw [eI]
        rw [← hrl, List.take_length] at hIng
        refine ⟨⟨g, nxt S x, rfl, by omega, by omega, hIng, fun l hl => ?_, fun l hl => ?_, hcg, fun j y hj' hy hyt hny => ?_, fun o F h => hLr o F (Lrn.step hGt hAl h), hMg, kY⟩, by omega⟩
        · rcases hl with h | h
          · exact hS l h.1
          · exact rs_ok hF x hxm l h.1 h.2
        · rcases hl with h | h
          · exact hSl l h.1
          · obtain ⟨k, y, hk, hy, hyl⟩ := rs_ahead hF hx h.1 h.2
            rw [lvl_of hF hy hyl, ← hlev]
            exact (hrun i x hx).2.2 k y (by omega) hy
        · rcases hny with ⟨h, hne⟩ | ⟨h, hne⟩
          · by_cases hji : (i : Int) < j
            · exact hbeh j y hji hy hyt h
            · obtain rfl : j = i := by omega
              rw [hx] at hy; injection hy with hy; subst hy
              exact hne rfl
          · obtain ⟨k, z, hk, hz, hzl⟩ := rs_ahead hF hx h hne
            rw [neg_neg (hF j y hy).1] at hzl
            have := lit_one hF hz hy hzl
            omega
  · -- one more entry
    refine pif_t rfl ⟨_, _, _, hent, ?_⟩
    have hp0S : p0.1 ∈ cs := (hIn.mem _).1 (List.mem_map.2 ⟨p0, hsub p0 hp0, rfl⟩)
    obtain ⟨hpf, hpe⟩ := hok _ hp0S
    have kV' : Keep None w5 V' := kV.trans kq fun j hj h => by have : j = q37 := h; omega
    refine level47 hF hn (hSr.keep0 kV') hpf hpe fun V2 k2' => ⟨_, rfl, ?_⟩
    have hItY := hIt'.keep0 k2'
    have hsub' : ∀ p ∈ todo', p ∈ f := fun p hp => hsub p (hperm.mem_iff.2 (by simp [hp]))
    have hcc := (cnt_perm (es := es) (top := top) hperm).trans (cnt_cons p0 todo')
    have hll : leftM V2 r q37 < leftM V r q37 := by
      rw [hItY.left, hItV.left]
      have := hperm.length_eq
      simp at this
      omega
    have sz2 := k2'.size
    refine pif_of (fun ht => ?_) fun ht => ?_
    · have ht : lvl es p0.1 = top := by simpa using ht
      rw [if_pos ht] at hcc
      rw [wrap_nat k (by omega)]
      exact ⟨⟨k + 1, todo', rfl, hItY, by omega, hsub', kV'.then0 k2', by omega⟩, hll⟩
    · have ht : ¬ lvl es p0.1 = top := by simpa using ht
      rw [if_neg ht] at hcc
      exact ⟨⟨k, todo', rfl, hItY, by omega, hsub', kV'.then0 k2', by omega⟩, hll⟩
end
end Go.Proofs.Ytmhjehodfggleaa.Learn
