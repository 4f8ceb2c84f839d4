/- LearnLearns and LearnNumbers: their walks. -/
import Derived.Test.YtlbpllpomdjooaaLearnM
set_option linter.unusedVariables false
set_option linter.unusedSimpArgs false
set_option maxRecDepth 100000
namespace Go.Proofs.Ytlbpllpomdjooaa.Learn
open Go Go.Proofs.Ytlbpllpomdjooaa.Vc Go.Proofs.Ytlbpllpomdjooaa.T
open Go.Proofs.Ytlbpllpomdjooaa.Apart (RdL own_rdl wrap_nat getE own_len copy same take_snoc Sl sv Gro)
open Go.Proofs.Ytlbpllpomdjooaa.Lits (Td Srt)

theorem LSpec.len {es : List En} {cs : List Int} {u b : Int} {cl : List Int} (h : LSpec es cs u b cl) : cl.length ≤ 2097154 := by
  obtain ⟨_, h⟩ := h
  rcases h with ⟨_, rfl, _⟩ | ⟨_, top, _, ⟨_, rfl, _⟩ | ⟨_, o, F, L, _, hT, rfl, _⟩⟩
  · simp
  · simp
  · have := hT.len
    simp only [List.length_cons]
    omega
section
variable {w w' : World} {p q : Option Addr} {n m c d : Nat} {es : List En} {cs : List Int}
theorem law7 (hE : RdE w p n es) (hR : Rc w p es) (hn : n ≤ 1048576) (hc : n ≤ c) (hr : ∀ x ∈ es, x.rs.length ≤ 1048576) (hC : RdL w q m cs) (hm : m ≤ 1048576) (hd : m ≤ d) :
    Calls Try.prog 7 #[.slice p n c, .slice q m d] w fun e w' => e = .returned (.bool true) ∧ RowKit.Below w.heap.size w w' := by
  refine (ans_of (V7_calls p n c q m d w (Ans w _) ?_)).mono fun e w' ⟨he, hk⟩ => ⟨he, hk.below0⟩
  unfold V7
  have hcl := hC.len
  refine cl_of ok11 (copyE hE (by omega) (fun x hx => by have := hr x hx; omega)) fun e w1 ⟨s, sd, xs, he, hCe, hxs⟩ => ⟨_, _, _, he, ?_⟩
  have hE1 := hCe.rde
  rw [hxs] at hE1
  have k1 := hCe.keep
  refine cl_of ok14 (copy (hC.keep0 k1) (by omega)) fun e w2 ⟨v, he, t, td, hv, hO, hnew, k2⟩ => ⟨_, _, _, he.trans (congrArg Ending.returned hv), ?_⟩
  have k02 := k1.then0 k2
  refine cl_of ok20 (learn20 (hE1.keep0 k2) hn hr (own_rdl hO) (by omega)) fun e w3 ⟨v, he, u, b, g, gn, gc, L, hv, hS, hOg, hng, k3⟩ => ⟨_, _, _, _, _, he.trans (congrArg Ending.returned hv), ?_⟩
  have k03 := k02.then0 k3
  refine cl_of ok21 (learn21 (hE.keep0 k03) (hR.keep0 k03) hn hc hr (hC.keep0 k03) hm hd) fun e w4 ⟨v, he, u2, b2, g2, gn2, gc2, L2, hv, hS2, hOg2, hng2, k4⟩ => ⟨_, _, _, _, _, he.trans (congrArg Ending.returned hv), ?_⟩
  obtain ⟨rfl, rfl, rfl⟩ := hS.uniq hS2
  have hLl := hS.len
  have hgl := own_len hOg
  have k04 := k03.then0 k4
  have e1 : (cond (u == u) (b == b) false) = true := by simp
  rw [e1]
  refine gd_t rfl (cl_of ok18 (same (own_rdl (hOg.keep0 k4)) (own_rdl hOg2) (by omega)) fun e w5 ⟨he, k5⟩ => ⟨_, he, ?_, k04.then0 k5⟩)
  rw [decide_eq_true rfl]; rfl
end
/-- a clash whose lesson is known -/
@[reducible] def es0 : List En := [⟨1, 1, []⟩, ⟨2, 1, [2, -1]⟩, ⟨3, 2, []⟩, ⟨4, 2, [4, -3, -2]⟩, ⟨5, 2, [5, -4]⟩]
theorem fm0 : Fm es0 := by
  intro i x hx
  match i, hx with
  | 0, hx => injection hx with hx; subst hx; unfold Good Lev Rsn; decide +kernel
  | 1, hx => injection hx with hx; subst hx; unfold Good Lev Rsn; decide +kernel
  | 2, hx => injection hx with hx; subst hx; unfold Good Lev Rsn; decide +kernel
  | 3, hx => injection hx with hx; subst hx; unfold Good Lev Rsn; decide +kernel
  | 4, hx => injection hx with hx; subst hx; unfold Good Lev Rsn; decide +kernel
  | k + 5, hx => cases hx
theorem gt0 {S : Int → Prop} {i : Nat} {x : En} (hx : es0[i]? = some x) (hl : x.lev = 2) (hS : S (neg x.lit)) (h3 : i < 3 → ¬ S (-4)) (h4 : i < 4 → ¬ S (-5)) (h2 : 2 ≤ i) : Gt es0 2 S i x :=
  ⟨hx, hl, hS, fun j y hj hy hyl hyS => by
    have hlt := (List.getElem?_eq_some_iff.1 hy).1
    have : j < 5 := hlt
    have e4 : neg 4 = -4 := by decide +kernel
    have e5 : neg 5 = -5 := by decide +kernel
    rcases (by omega : j = 3 ∨ j = 4) with rfl | rfl
    · injection hy with hy; subst hy
      exact h3 hj (e4 ▸ hyS)
    · injection hy with hy; subst hy
      exact h4 hj (e5 ▸ hyS)⟩
theorem spec0 : LSpec es0 [-5, -3] 0 1 [-3, -2] := by
  have n3 : neg 3 = -3 := by decide +kernel
  have n4 : neg 4 = -4 := by decide +kernel
  have n5 : neg 5 = -5 := by decide +kernel
  have l2 : lvl es0 (-2) = 1 := by decide +kernel
  have l3 : lvl es0 (-3) = 2 := by decide +kernel
  have l4 : lvl es0 (-4) = 2 := by decide +kernel
  have l5 : lvl es0 (-5) = 2 := by decide +kernel
  refine ⟨Or.inr (Or.inr ⟨rfl, ?_, fm0, by decide +kernel⟩), Or.inr ⟨rfl, 2, ⟨fun l hl => ?_, by decide, Or.inr ⟨-5, by simp, l5⟩⟩, Or.inr ⟨by decide, -3, nxt (nxt (· ∈ ([-5, -3] : List Int)) ⟨5, 2, [5, -4]⟩) ⟨4, 2, [4, -3, -2]⟩, [-2], ?_, ⟨?_, fun l => ?_⟩, rfl, ?_⟩⟩⟩
  · unfold Fals; decide +kernel
  · simp only [List.mem_cons, List.not_mem_nil, or_false] at hl
    rcases hl with rfl | rfl
    · rw [l5]; exact Int.le_refl _
    · rw [l3]; exact Int.le_refl _
  · have d5 : Gt es0 2 (· ∈ ([-5, -3] : List Int)) 4 ⟨5, 2, [5, -4]⟩ := gt0 rfl rfl (by rw [n5]; simp) (fun h => by omega) (fun h => by omega) (by omega)
    refine Lrn.step d5 (fun h => ?_) ?_
    · have := h (-3) (by simp) l3
      rw [n5] at this; revert this; decide
    have d4 : Gt es0 2 (nxt (· ∈ ([-5, -3] : List Int)) ⟨5, 2, [5, -4]⟩) 3 ⟨4, 2, [4, -3, -2]⟩ := gt0 rfl rfl (by rw [n4]; exact Or.inr ⟨by simp, by decide⟩) (fun h => by omega) (fun _ h => by
      rcases h with ⟨_, h⟩ | ⟨h, _⟩
      · rw [n5] at h; exact h rfl
      · revert h; decide) (by omega)
    refine Lrn.step d4 (fun h => ?_) ?_
    · have := h (-3) (Or.inl ⟨by simp, by rw [n5]; decide⟩) l3
      rw [n4] at this; revert this; decide
    have d3 : Gt es0 2 (nxt (nxt (· ∈ ([-5, -3] : List Int)) ⟨5, 2, [5, -4]⟩) ⟨4, 2, [4, -3, -2]⟩) 2 ⟨3, 2, []⟩ := gt0 rfl rfl (by rw [n3]; exact Or.inr ⟨by simp, by decide⟩) (fun _ h => by
      rcases h with ⟨_, h⟩ | ⟨h, _⟩
      · rw [n4] at h; exact h rfl
      · revert h; decide) (fun _ h => by
      rcases h with ⟨⟨_, h⟩ | ⟨h, _⟩, _⟩ | ⟨h, _⟩
      · rw [n5] at h; exact h rfl
      · revert h; decide
      · revert h; decide) (by omega)
    have := Lrn.done d3 (fun l hl hll => ?_)
    · rw [show neg (⟨3, 2, []⟩ : En).lit = -3 from n3] at this
      exact this
    · rcases hl with ⟨⟨h, hn⟩ | ⟨h, hn⟩, hm⟩ | ⟨h, hn⟩
      · simp only [List.mem_cons, List.not_mem_nil, or_false] at h
        rcases h with rfl | rfl
        · rw [n5] at hn; exact absurd rfl hn
        · exact n3.symm
      · simp only [List.mem_cons, List.not_mem_nil, or_false] at h
        rcases h with rfl | rfl
        · exact absurd rfl hn
        · rw [n4] at hm; exact absurd rfl hm
      · simp only [List.mem_cons, List.not_mem_nil, or_false] at h
        rcases h with rfl | rfl | rfl
        · exact absurd rfl hn
        · exact n3.symm
        · rw [l2] at hll; cases hll
  · exact List.pairwise_singleton ..
  · rw [List.mem_singleton]
    constructor
    · rintro rfl
      exact ⟨⟨Or.inr ⟨by simp, by decide⟩, by decide, by rw [l2]; decide⟩, by decide⟩
    · rintro ⟨⟨h, h3, _⟩, _⟩
      rcases h with ⟨⟨h, hn⟩ | ⟨h, hn⟩, hm⟩ | ⟨h, hn⟩
      · simp only [List.mem_cons, List.not_mem_nil, or_false] at h
        rcases h with rfl | rfl
        · rw [n5] at hn; exact absurd rfl hn
        · exact absurd rfl h3
      · simp only [List.mem_cons, List.not_mem_nil, or_false] at h
        rcases h with rfl | rfl
        · exact absurd rfl hn
        · rw [n4] at hm; exact absurd rfl hm
      · simp only [List.mem_cons, List.not_mem_nil, or_false] at h
        rcases h with rfl | rfl | rfl
        · exact absurd rfl hn
        · exact absurd rfl h3
        · rfl
  · exact ⟨fun l hl => by rw [List.mem_singleton.1 hl, l2]; exact Int.le_refl _, by decide, Or.inr ⟨-2, by simp, l2⟩⟩
theorem blk_rdl {w : World} {b : Nat} {xs : List Int} {n : Nat} (h : Blk w b (xs.map I) 3) (hn : xs.length = n) (hs : n ≤ 1099511627776) : RdL w (some ⟨b, 0, none⟩) n xs := by
  subst hn
  refine own_rdl (c := xs.length) (Or.inr ⟨b, _, rfl, h, Nat.le_refl _, by simp only [maxLen]; omega, by simp, ?_⟩)
  rw [Nat.mul_one]
  exact List.take_of_length_le (by simp)
theorem awake19 (w : World) : Calls Try.prog 19 #[] w fun e w' => e = .returned (.bool true) ∧ Keep None w w' := by
  refine ans_of (V19_calls w (Ans w _) ?_)
  unfold V19
  refine alc_at fun b3 w1 hb3 h3 k1 => ?_
  refine alc_at fun b4 w2 hb4 h4 k2 => ?_
  refine alc_at fun b5 w3 hb5 h5 k3 => ?_
  refine alc_at fun b6 w4 hb6 h6 k4 => ?_
  refine alc_at fun b8 w5 hb8 h8 k5 => ?_
  have r3 : RdL w5 (some ⟨b3, 0, none⟩) 2 [2, -1] := blk_rdl ((((h3.keep0 k2).keep0 k3).keep0 k4).keep0 k5) rfl (by omega)
  have r4 : RdL w5 (some ⟨b4, 0, none⟩) 3 [4, -3, -2] := blk_rdl (((h4.keep0 k3).keep0 k4).keep0 k5) rfl (by omega)
  have r5 : RdL w5 (some ⟨b5, 0, none⟩) 2 [5, -4] := blk_rdl ((h5.keep0 k4).keep0 k5) rfl (by omega)
  have r8 : RdL w5 (some ⟨b8, 0, none⟩) 2 [-5, -3] := blk_rdl h8 rfl (by omega)
  have r0 : RdL w5 none 0 [] := ⟨rfl, fun i x h => by simp at h⟩
  have h6 := h6.keep0 k5
  have hE : RdE w5 (some ⟨b6, 0, none⟩) 5 es0 := by
    refine ⟨rfl, fun i x hx => ?_⟩
    have cel : ∀ (j : Nat) (v : Value), (([.int .i64 1, .int .i64 1, .slice none 0 0, .int .i64 2, .int .i64 1, .slice (some (⟨b3, 0, none⟩ : Addr)) 2 2, .int .i64 3, .int .i64 2, .slice none 0 0, .int .i64 4, .int .i64 2, .slice (some (⟨b4, 0, none⟩ : Addr)) 3 3, .int .i64 5, .int .i64 2, .slice (some (⟨b5, 0, none⟩ : Addr)) 2 2] : List Value)[j]? = some v) → w5.cell? ((⟨b6, 0, none⟩ : Addr).add j) = some v := fun j v hv => by
      rw [add_mk, Nat.zero_add, h6.cell]; exact hv
    have fin : ∀ (i : Nat) (x : En) (q : Option Addr) (rn rc : Nat), w5.cell? ((⟨b6, 0, none⟩ : Addr).add (i * 3)) = some (I x.lit) → w5.cell? ((⟨b6, 0, none⟩ : Addr).add (i * 3 + 1)) = some (I x.lev) → w5.cell? ((⟨b6, 0, none⟩ : Addr).add (i * 3 + 2)) = some (.slice q rn rc) → RdL w5 q rn x.rs →
        ∃ a q rn rc, (some (⟨b6, 0, none⟩ : Addr)) = some a ∧ w5.cell? ((a.add (i * 3)).add 0) = some (I x.lit) ∧ w5.cell? ((a.add (i * 3)).add 1) = some (I x.lev) ∧ w5.cell? ((a.add (i * 3)).add 2) = some (.slice q rn rc) ∧ RdL w5 q rn x.rs := fun i x q rn rc c0 c1 c2 hr =>
      ⟨_, q, rn, rc, rfl, by rw [Lits.add_add]; exact c0, by rw [Lits.add_add]; exact c1, by rw [Lits.add_add]; exact c2, hr⟩
    match i, hx with
    | 0, hx => injection hx with hx; subst hx; exact fin 0 _ none 0 0 (cel 0 _ rfl) (cel 1 _ rfl) (cel 2 _ rfl) r0
    | 1, hx => injection hx with hx; subst hx; exact fin 1 _ _ 2 2 (cel 3 _ rfl) (cel 4 _ rfl) (cel 5 _ rfl) r3
    | 2, hx => injection hx with hx; subst hx; exact fin 2 _ none 0 0 (cel 6 _ rfl) (cel 7 _ rfl) (cel 8 _ rfl) r0
    | 3, hx => injection hx with hx; subst hx; exact fin 3 _ _ 3 3 (cel 9 _ rfl) (cel 10 _ rfl) (cel 11 _ rfl) r4
    | 4, hx => injection hx with hx; subst hx; exact fin 4 _ _ 2 2 (cel 12 _ rfl) (cel 13 _ rfl) (cel 14 _ rfl) r5
    | k + 5, hx => cases hx
  have k05 := (((k1.then0 k2).then0 k3).then0 k4).then0 k5
  refine cl_of ok20 (learn20 (c := 5) (d := 2) hE (by omega) (fun x hx => ?_) r8 (by omega)) fun e w6 ⟨v, he, u, b, g, gn, gc, L, hv, hS, hOg, hng, k6⟩ => ⟨_, _, _, _, _, he.trans (congrArg Ending.returned hv), ?_⟩
  · simp only [es0, List.mem_cons, List.not_mem_nil, or_false] at hx
    rcases hx with rfl | rfl | rfl | rfl | rfl <;> simp
  obtain ⟨rfl, rfl, rfl⟩ := hS.uniq spec0
  refine gd_t rfl (alc_at fun b15 w7 hb15 h15 k7 => gd_t rfl ?_)
  have hgl := own_len hOg
  refine cl_of ok18 (same (own_rdl (hOg.keep0 k7)) (blk_rdl (xs := [-3, -2]) (n := 2) h15 rfl (by omega)) (by simp at hgl; omega)) fun e w8 ⟨he, k8⟩ => ⟨_, he, ?_, ((k05.then0 k6).then0 k7).then0 k8⟩
  rw [decide_eq_true rfl]; rfl
theorem law6 (w : World) : Calls Try.prog 6 #[] w fun e w' => e = .returned (.bool true) ∧ RowKit.Below w.heap.size w w' := by
  refine (ans_of (V6_calls w (Ans w _) ?_)).mono fun e w' ⟨he, hk⟩ => ⟨he, hk.below0⟩
  unfold V6
  exact gd_t rfl (cl_of ok19 (awake19 w) fun e w1 ⟨he, k1⟩ => ⟨_, he, rfl, k1⟩)
end Go.Proofs.Ytlbpllpomdjooaa.Learn
