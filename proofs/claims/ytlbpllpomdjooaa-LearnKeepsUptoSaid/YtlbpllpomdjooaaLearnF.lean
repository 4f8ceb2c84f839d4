/- LearnLevels. -/
import Derived.Test.YtlbpllpomdjooaaLearnE
set_option linter.unusedVariables false
set_option linter.unusedSimpArgs false
set_option maxRecDepth 100000
namespace Go.Proofs.Ytlbpllpomdjooaa.Learn
open Go Go.Proofs.Ytlbpllpomdjooaa.Vc Go.Proofs.Ytlbpllpomdjooaa.T
open Go.Proofs.Ytlbpllpomdjooaa.Apart (RdL own_rdl wrap_nat getE own_len copy same take_snoc Sl sv Gro)

section
variable {w w' : World} {p q : Option Addr} {n m c d : Nat} {es : List En} {cs : List Int}
theorem levels15 (hE : RdE w p n es) (hn : n ≤ 1048576) (hc : n ≤ c) (hr : ∀ x ∈ es, x.rs.length ≤ 1099511627776) (hC : RdL w q m cs) (hm : m ≤ 1048576) :
    Calls Try.prog 15 #[.slice p n c, .slice q m d] w fun e w' => ∃ b, e = .returned (if b then ansV (runL es cs []) else .tuple #[I 0, I 1]) ∧ (b = true ↔ Fm es ∧ cs.all fl = true) ∧ Keep None w w' := by
  refine (V15_calls p n c q m d w (fun v w' => ∃ b, v = (if b then ansV (runL es cs []) else .tuple #[I 0, I 1]) ∧ (b = true ↔ Fm es ∧ cs.all fl = true) ∧ Keep None w w') ?_).mono fun e w' ⟨v, he, b, hv, hk⟩ => ⟨b, by rw [he, hv], hk⟩
  unfold V15
  have hl := hE.len
  have hcl := hC.len
  refine cl_of ok12 (formed12 hE (by omega) hc hr) fun e w1 ⟨b, he, hb, k1⟩ => ⟨b, he, ?_⟩
  cases b with
  | false => exact gd_f rfl (pif_t rfl ⟨false, rfl, ⟨(fun h => by cases h), fun h => by have := hb.2 h.1; cases this⟩, k1⟩)
  | true =>
    have hF := hb.1 rfl
    refine gd_t rfl (cl_of ok41 (sound41 (hC.keep0 k1) (by omega)) fun e w2 ⟨he, k2⟩ => ⟨_, he, ?_⟩)
    have k02 := k1.then0 k2
    cases hs : cs.all fl with
    | false => exact pif_t rfl ⟨false, rfl, ⟨(fun h => by cases h), fun h => by have := h.2; cases this⟩, k02⟩
    | true =>
      refine pif_f rfl ?_
      refine lp_of (fun s w' => ∃ (i : Nat) (S : List Int), s.2.1 = (i : Int) ∧ i ≤ m ∧ Keep None w w' ∧ S.length ≤ i ∧ Gro w2 w' s.1.1 s.1.2.1 s.1.2.2 S ∧ runL es cs [] = runL es (cs.drop i) S) (fun s _ => (m - s.2.1).toNat)
        ⟨0, [], rfl, Nat.zero_le _, k02, by simp, Gro.nil w2, rfl⟩ ?_
      rintro ⟨⟨g, gn, gc⟩, i', ⟨⟩⟩ w5 ⟨i, S, rfl, hi, k5, hSl, hG, hrun⟩
      simp only [] at hG ⊢
      have hgl := hG.len
      refine pif_of (fun hlt => ?_) fun hge => ?_
      · have hlt : i < m := by simpa using hlt
        rw [wrap_nat i (by omega)]
        refine ⟨fun s w' => ∃ S, Keep None w w' ∧ S.length ≤ i + 1 ∧ Gro w2 w' s.1.1 s.1.2.1 s.1.2.2 S ∧ runL es cs [] = runL es (cs.drop (i + 1)) S, ?_, ?_⟩
        · obtain ⟨l, hll⟩ := getE (show i < cs.length by omega)
          have hfl : fl l = true := List.all_eq_true.1 hs l (List.mem_of_getElem? hll)
          have hnn := neg_neg hfl
          rw [drop_cons hll] at hrun
          have rd : ∀ {w' : World} {K : Int → Prop}, Keep None w w' → K l → ixA q m (i : Int) 1 fun p21 => ldI .i64 w' p21 K := fun k hK => (hC.keep0 k).ix hlt fun a y hy ha => by
            rw [hll] at hy; injection hy with hy; subst hy
            exact ldI_of ha hK
          refine rd k5 (cl_of ok36 (place36 (hE.keep0 k5) (by omega) l) fun e w6 ⟨v, he, hv, k6⟩ => ⟨v, he, ?_⟩)
          have k06 := k5.then0 k6
          have hG6 := hG.keep0 k6
          -- the place of either
          refine ⟨fun s w' => Keep None w w' ∧ Gro w2 w' g gn gc S ∧ ((s.1 < 0 ∧ lev? es l = none) ∨ ∃ (k : Nat) (x : En), s.1 = (k : Int) ∧ es[k]? = some x ∧ lev? es l = some x.lev), ?_, ?_⟩
          · refine pif_of (fun hneg => ?_) fun hpos => ?_
            · have hneg : v < 0 := by simpa using hneg
              refine rd k06 (cl_of ok36 (place36 (hE.keep0 k06) (by omega) (neg l)) fun e w7 ⟨u, he, hu, k7⟩ => ⟨u, he, k06.then0 k7, hG6.keep0 k7, ?_⟩)
              have hno : ∀ y ∈ es, y.lit ≠ neg l := by
                rcases hv with ⟨_, h⟩ | ⟨k, x, h, _⟩
                · exact h
                · omega
              rcases hu with ⟨hu, h⟩ | ⟨k, x, hu, hx, hxl, _⟩
              · exact Or.inl ⟨by simp only []; omega, lev_none fun y hy => ⟨by have := h y hy; rwa [hnn] at this, hno y hy⟩⟩
              · exact Or.inr ⟨k, x, hu, hx, lev_some hF hfl hx (Or.inl (by rw [hxl, hnn]))⟩
            · have hpos : 0 ≤ v := by simpa using hpos
              refine ⟨k06, hG6, Or.inr ?_⟩
              rcases hv with ⟨hv, _⟩ | ⟨k, x, hv, hx, hxl, _⟩
              · omega
              · exact ⟨k, x, hv, hx, lev_some hF hfl hx (Or.inr hxl)⟩
          · rintro ⟨v', ⟨⟩⟩ w7 ⟨k7, hG7, hv'⟩
            simp only [] at hv' ⊢
            rcases hv' with ⟨hv0, hnone⟩ | ⟨k, x, rfl, hx, hlev⟩
            · refine pif_t (by simpa using hv0) ⟨true, ?_, ⟨fun _ => ⟨hF, by first | rfl | trivial⟩, fun _ => rfl⟩, k7⟩
              rw [hrun]
              have : runL es (l :: cs.drop (i + 1)) S = none := by
                show (match lev? es l with | none => none | some L => runL es (cs.drop (i + 1)) (addS S L)) = _
                rw [hnone]
              rw [this]; rfl
            · have hstep : runL es (l :: cs.drop (i + 1)) S = runL es (cs.drop (i + 1)) (addS S x.lev) := by
                show (match lev? es l with | none => none | some L => runL es (cs.drop (i + 1)) (addS S L)) = _
                rw [hlev]
              rw [hstep] at hrun
              refine pif_f (by first | simp | (simp; omega)) ((hE.keep0 k7).ix hx fun a ⟨_, _, _, _, c1, _⟩ => ldI_of c1 ?_)
              refine cl_of ok42 (has42 (own_rdl hG7.own) (by omega) x.lev) fun e w8 ⟨he, k8⟩ => ⟨_, he, ?_⟩
              have k08 := k7.then0 k8
              have hG8 := hG7.keep0 k8
              by_cases hin : x.lev ∈ S
              · rw [decide_eq_true hin]
                refine pif_f rfl ⟨S, k08, by omega, hG8, ?_⟩
                rw [hrun, addS, if_pos hin]
              · rw [decide_eq_false hin]
                refine pif_t rfl ((hE.keep0 k08).ix hx fun a ⟨_, _, _, _, c1, _⟩ => ldI_of c1 ?_)
                refine hG8.app (by omega) fun p' c' w9 hG9 => ⟨S ++ [x.lev], ?_, by simp; omega, hG9, ?_⟩
                · exact k02.then0 hG9.keep
                · rw [hrun, addS, if_neg hin]
        · rintro ⟨⟨g', gn', gc'⟩, ⟨⟩⟩ w6 ⟨S', k6, hS6, hG6, hrun6⟩
          exact ⟨⟨i + 1, S', rfl, hlt, k6, hS6, hG6, hrun6⟩, by omega⟩
      · have hge : i = m := by simp at hge; omega
        subst hge
        have hd : cs.drop i = [] := by rw [← hcl]; exact List.drop_length
        rw [hd] at hrun
        refine ⟨true, ?_, ⟨fun _ => ⟨hF, by first | rfl | trivial⟩, fun _ => rfl⟩, k5⟩
        rw [hrun]
        show _ = ansV (some S)
        simp [ansV, hgl]
theorem ans_tup (o : Option (List Int)) : ∃ a b : Int, ansV o = .tuple #[I a, I b] := by
  cases o with
  | none => exact ⟨_, _, rfl⟩
  | some S => exact ⟨_, _, rfl⟩
theorem law4 (hE : RdE w p n es) (hn : n ≤ 1048576) (hc : n ≤ c) (hr : ∀ x ∈ es, x.rs.length ≤ 1099511627776) (hC : RdL w q m cs) (hm : m ≤ 1048576) :
    Calls Try.prog 4 #[.slice p n c, .slice q m d] w fun e w' => e = .returned (.bool true) ∧ RowKit.Below w.heap.size w w' := by
  refine (ans_of (V4_calls p n c q m d w (Ans w _) ?_)).mono fun e w' ⟨he, hk⟩ => ⟨he, hk.below0⟩
  unfold V4
  have hcl := hC.len
  refine cl_of ok11 (copyE hE (by omega) hr) fun e w1 ⟨s, sd, xs, he, hCe, hxs⟩ => ⟨_, _, _, he, ?_⟩
  have hE1 := hCe.rde
  rw [hxs] at hE1
  have k1 := hCe.keep
  refine cl_of ok14 (copy (hC.keep0 k1) (by omega)) fun e w2 ⟨v, he, t, td, hv, hO, hnew, k2⟩ => ⟨_, _, _, he.trans (congrArg Ending.returned hv), ?_⟩
  have k02 := k1.then0 k2
  refine cl_of ok13 (levels13 (hE1.keep0 k2) hn hr (own_rdl hO) (by omega)) fun e w3 ⟨b, he, hb, k3⟩ => ?_
  have k03 := k02.then0 k3
  obtain ⟨x, y, hxy⟩ : ∃ x y : Int, (if b then ansV (runL es cs []) else .tuple #[I 0, I 1]) = (.tuple #[I x, I y] : Value) := by
    cases b with
    | true => exact ans_tup _
    | false => exact ⟨_, _, rfl⟩
  refine ⟨x, y, he.trans (congrArg Ending.returned hxy), cl_of ok15 (levels15 (hE.keep0 k03) hn hc hr (hC.keep0 k03) hm) fun e w4 ⟨b2, he4, hb2, k4⟩ => ?_⟩
  have e1 : b2 = b := by rw [Bool.eq_iff_iff, hb, hb2]
  subst e1
  exact ⟨x, y, he4.trans (congrArg Ending.returned hxy), by simp, k03.then0 k4⟩
end
end Go.Proofs.Ytlbpllpomdjooaa.Learn
