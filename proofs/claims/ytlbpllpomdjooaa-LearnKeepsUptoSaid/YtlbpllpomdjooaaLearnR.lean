/- LearnKeeps: the whole. -/
import Derived.Test.YtlbpllpomdjooaaLearnQ
import Derived.Test.YtlbpllpomdjooaaOpenF
set_option linter.unusedVariables false
set_option linter.unusedSimpArgs false
set_option linter.unusedSectionVars false
set_option maxRecDepth 100000
namespace Go.Proofs.Ytlbpllpomdjooaa.Learn
open Go Go.Proofs.Ytlbpllpomdjooaa.Vc Go.Proofs.Ytlbpllpomdjooaa.T Go.ChangeShapes Go.WideShapes Go.ChangeAt Go.RowKit
open Go.Proofs.Ytlbpllpomdjooaa.Apart (RdL own_rdl wrap_nat getE own_len copy same take_snoc Sl sv mks mks_len)

theorem law9 {w : World} {t u c d : Sl} {es eu : List En} {cs ds : List Int}
    (hT : RdE w t.1 t.2.1 es) (hTR : Rc w t.1 es) (htn : t.2.1 ≤ 1048576) (htc : t.2.1 ≤ t.2.2) (hr : ∀ x ∈ es, x.rs.length ≤ 1048576)
    (hU : RdE w u.1 u.2.1 eu) (hun : u.2.1 ≤ 1048576) (hru : ∀ x ∈ eu, x.rs.length ≤ 1048576)
    (hc0 : RdL w c.1 c.2.1 cs) (hcm : c.2.1 ≤ 1048576) (hcc : c.2.1 ≤ c.2.2) (hd0 : RdL w d.1 d.2.1 ds) (hdm : d.2.1 ≤ 1048576) :
    Calls Try.prog 9 #[.agg #[.slice t.1 t.2.1 t.2.2, .slice u.1 u.2.1 u.2.2, .slice c.1 c.2.1 c.2.2, .slice d.1 d.2.1 d.2.2]] w fun e w' => e = .returned (.bool true) ∧ RowKit.Below w.heap.size w w' := by
  refine (ans_of (V9_calls t.1 t.2.1 t.2.2 u.1 u.2.1 u.2.2 c.1 c.2.1 c.2.2 d.1 d.2.1 d.2.2 w (Ans w _) ?_)).mono fun e w' ⟨he, hk⟩ => ⟨he, hk.below0⟩
  unfold V9
  simp only [Int.toNat_natCast, Nat.sub_zero, add_mk, Nat.zero_add, Nat.add_zero]
  have dr : ∀ V : World, Keep None V V.drew := fun V => (Keep.refl _ V).drew
  have hel := hT.len
  have hcl := hc0.len
  refine alc_at fun b2 w1 hb2 hB2 k1 => ?_
  have z1 := k1.size
  have l2 := hB2.lt
  refine ldC_of (hB2.cell 0) ?_
  refine cl_of ok26 (lentE26 (hT.keep0 k1) htn hr) fun e w2 ⟨v, he, wp, wc, rp, rc, xs, hv, hx, k2, hL⟩ => ⟨_, _, _, _, _, _, _, _, _, he.trans (congrArg Ending.returned hv), ?_⟩
  rw [hel] at hL ⊢
  have z2 := k2.size
  refine alc_at fun b9 w3 hb9 hB9 k3 => ?_
  have z3 := k3.size
  have l9 := hB9.lt
  refine st_of hB9 (by simp) rfl fun w4 hB9 k4 e4 => ?_
  refine st_of hB9 (by simp) rfl fun w5 hB9 k5 e5 => ?_
  refine st_of hB9 (by simp) rfl fun w6 hB9 k6 e6 => ?_
  have k26 : Keep None w2 w6 := ((k3.then1 k4 (by omega)).then1 k5 (by omega)).then1 k6 (by omega)
  have k36 : w3.heap.size ≤ w6.heap.size := Nat.le_trans k4.size (Nat.le_trans k5.size k6.size)
  have hB26 := (hB2.keep0 k2).keep0 k26
  have kw6 := (k1.then0 k2).then0 k26
  refine ldC_of (hB26.cell 2) ?_
  refine cl_of ok27 (lent27 (hc0.keep0 kw6) (Nat.le_trans hcm (by decide))) fun e w7 ⟨v, he, yp, yc, hv, hY, hyn, k7⟩ => ⟨yp, _, yc, he.trans (congrArg Ending.returned hv), ?_⟩
  have eyl : (cs ++ mks 0 64).length = c.2.1 + 64 := by rw [List.length_append, mks_len, hcl]
  rw [eyl] at hY ⊢
  have hsl : slA yp yc 0 1 = yp := slA_own hY
  have hyle := hY.le
  simp only [hsl]
  have z7 := k7.size
  have env : Env w w7 b2 b9 t u c d wp wc rp rc := ⟨hB26.keep0 k7, hB9.keep0 k7, kw6.then0 k7⟩
  have hL7 := (hL.keep0 k26).keep0 k7
  have hwle := hL.whole.le
  have hC7 : RdL w7 yp c.2.1 cs := rdl_cut (own_rdl hY) hcl
  have hE7 : RdE w7 wp t.2.1 es := by
    have hxl : xs.length = t.2.1 := hL.rlen
    refine ⟨hel, fun i x hxi => ?_⟩
    rw [← hx, List.getElem?_map] at hxi
    obtain ⟨y, hy, rfl⟩ := Option.map_eq_some_iff.1 hxi
    have hi := (List.getElem?_eq_some_iff.1 hy).1
    obtain ⟨e0, hO, _⟩ := hL7.each y (List.mem_of_getElem? hy)
    have hown := hL7.whole
    have h0 := hown
    rcases h0 with ⟨_, hm, _⟩ | ⟨b, vs, rfl, _⟩
    · omega
    have hyw : (xs ++ mksE 64)[i]? = some y := by rw [List.getElem?_append_left hi]; exact hy
    have cell : ∀ k, k < 3 → w7.cell? (((⟨b, 0, none⟩ : Addr).add (i * 3)).add k) = (flat y)[k]? := fun k hk => by
      rw [add_mk, add_mk, Nat.zero_add, hown.cell _ (by omega), flat_at hyw hk]
    refine ⟨_, y.2.1, y.2.2.1, y.2.2.2, rfl, cell 0 (by omega), cell 1 (by omega), cell 2 (by omega), ?_⟩
    rw [e0]
    exact rdl_cut (own_rdl hO) rfl
  clear hB2 hB9 hB26
  have rd : ∀ {V : World}, Keep None w7 V → ∀ {K : Option Addr → Nat → Nat → Option Addr → Nat → Nat → Prop}, K wp t.2.1 wc c.1 c.2.1 c.2.2 → ldC V ⟨b9, 0, none⟩ fun a b c' => ldC V ⟨b2, 2, none⟩ fun a' b' c'' => K a b c' a' b' c'' := fun hk K h =>
    ldC_of ((env.len.keep0 hk).cell 0) (ldC_of (x := c.1) (n := c.2.1) (c := c.2.2) ((env.ask.keep0 hk).cell 2) h)
  have hr' : ∀ x ∈ es, x.rs.length ≤ 1099511627776 := fun x hx => by have := hr x hx; omega
  have q0 := dr w7
  refine rd q0 ⟨by omega, by omega, ?_⟩
  refine cl_of ok20 (learn20 (hE7.keep0 q0) htn hr (hC7.keep0 q0) hcm) fun e w8 ⟨v, he, u1, bk1, p0, n0, c0, L0, hv, hS, hO0, hf0, k8⟩ => ⟨_, _, _, _, _, he.trans (congrArg Ending.returned hv), ?_⟩
  have l0 : Lst w8 p0 n0 c0 L0 w7.heap.size w8.heap.size := lst_of hO0 hS.len hf0 (dr w7).size
  have q1 := (q0.then0 k8).then0 (dr w8)
  refine rd q1 ⟨by omega, by omega, ?_⟩
  refine cl_of ok16 (shrink16 (hE7.keep0 q1) htn hr (hC7.keep0 q1) hcm) fun e w9 ⟨v, he, v1, p4, n4, c4, L4, hv, hu, hO4, hf4, ha, hb, k9⟩ => ⟨_, _, _, _, he.trans (congrArg Ending.returned hv), ?_⟩
  have l4 : Lst w9 p4 n4 c4 L4 w8.heap.size w9.heap.size := lst_of hO4 (shrunk_len (es := es) (cs := cs) (by omega) ha hb) hf4 (dr w8).size
  have q2 := (q1.then0 k9).then0 (dr w9)
  refine rd q2 ⟨by omega, by omega, ?_⟩
  refine cl_of ok13 (levels13 (hE7.keep0 q2) htn hr' (hC7.keep0 q2) hcm) fun e w10 ⟨bb, he, hbb, k10⟩ => ?_
  obtain ⟨x, y, hxy⟩ : ∃ x y : Int, (if bb then ansV (runL es cs []) else .tuple #[I 0, I 1]) = (.tuple #[I x, I y] : Value) := by
    cases bb with
    | true => exact ans_tup _
    | false => exact ⟨_, _, rfl⟩
  refine ⟨x, y, he.trans (congrArg Ending.returned hxy), ?_⟩
  have q3 := q2.then0 k10
  refine ldC_of ((env.len.keep0 q3).cell 0) ?_
  refine cl_of ok10 (formed10 (hE7.keep0 q3) (Nat.le_trans htn (by decide)) hr') fun e w11 ⟨fb, he, hfb, k11⟩ => ⟨_, he, ?_⟩
  have q4 := q3.then0 k11
  refine ldC_of ((env.len.keep0 q4).cell 0) (ldC_of ((env.len.keep0 q4).cell 1) (ldC_of ((env.len.keep0 q4).cell 2) (ldC_of (x := t.1) (n := t.2.1) (c := t.2.2) ((env.ask.keep0 q4).cell 0) ?_)))
  refine cl_of ok28 (keptE28 (hT.keep0 (env.kw.then0 q4)) (hL7.keep0 q4) hx htn hr) fun e w12 ⟨he, k12⟩ => ⟨_, he, ?_⟩
  have q5 := q4.then0 k12
  refine gd_t rfl (ldC_of (x := c.1) (n := c.2.1) (c := c.2.2) ((env.ask.keep0 q5).cell 2) ?_)
  refine gd_t rfl (cl_of ok29 (kept29 (hc0.keep0 (env.kw.then0 q5)) ((own_rdl hY).keep0 q5) (Nat.le_trans hcm (by decide))) fun e w14 ⟨he, k14⟩ => ⟨_, he, ?_⟩)
  have q6 := q5.then0 k14
  refine pif_f rfl ?_
  have k814 : Keep None w8 w14 := ((((((dr w8).then0 k9).then0 (dr w9)).then0 k10).then0 k11).then0 k12).then0 k14
  have k914 : Keep None w9 w14 := (((((dr w9).then0 k10).then0 k11).then0 k12).then0 k14)
  have t8 : w7.heap.size ≤ w8.heap.size := ((dr w7).then0 k8).size
  have t9 : w8.heap.size ≤ w9.heap.size := ((dr w8).then0 k9).size
  have fin := t9B (w1 := w1) (w2 := w2) (env.keep0 q6) z1 (by omega) l2 hT hTR htn htc hr hU hun hru hc0 hcm hcc hd0 hdm (hE7.keep0 q6) (by omega) hL hx ((k26.then0 k7).then0 q6) z2 (by omega)
    (fun j hj => by have := hyn j hj; have := hY.lt j hj; omega) (hY.keep0 q6) (by omega) t8 t9 k914.size (l0.keep0 k814) (l4.keep0 k914) hS hu ha hb ⟨bb, y, hxy, hbb⟩ hfb
  unfold T9B T9C at fin
  simp only [hsl, Int.toNat_natCast, Nat.sub_zero, add_mk, Nat.zero_add, Nat.add_zero] at fin
  exact fin

theorem fits42 {w : World} {m B : Nat} {cs : List Value} (hB : B ≤ 1048576) (h : Fits Try.prog w (m + 5) 42 cs) (hb : Bk Try.prog w B 4 42 cs) :
    ∃ (t u c d : Sl) (es eu : List En) (xs ys : List Int), cs = [sv t, sv u, sv c, sv d] ∧ (t.2.1 ≤ t.2.2 ∧ t.2.1 ≤ 1048576 ∧ RdE w t.1 t.2.1 es ∧ Rc w t.1 es ∧ ∀ x ∈ es, OkE x) ∧ (u.2.1 ≤ 1048576 ∧ RdE w u.1 u.2.1 eu ∧ ∀ x ∈ eu, OkE x) ∧
      (c.2.1 ≤ c.2.2 ∧ c.2.1 ≤ 1048576 ∧ RdL w c.1 c.2.1 xs) ∧ d.2.1 ≤ 1048576 ∧ RdL w d.1 d.2.1 ys := by
  unfold Fits at h; rw [Try.underlying42] at h
  unfold Bk at hb; rw [Try.underlying42] at hb
  obtain ⟨hl, h⟩ := h
  have c42 : Try.prog.cellsOf 42 = 4 := by kernel_rfl
  have c22 : Try.prog.cellsOf 22 = 1 := by kernel_rfl
  rw [c42] at hl
  match cs, hl with
  | [a0, a1, a2, a3], _ =>
    obtain ⟨p0, n0, d0, e0, f0, g0, i0, j0, k0, l0⟩ := fits22c (m := m) (cs := [a0]) hB (by simpa [c22, c25] using h 0 _ rfl) (by simpa [c22, c25] using hb 0 _ rfl)
    obtain ⟨p1, n1, d1, e1, f1, g1, i1, j1, k1, l1⟩ := fits22c (m := m) (cs := [a1]) hB (by simpa [c22, c25] using h 1 _ rfl) (by simpa [c22, c25] using hb 1 _ rfl)
    obtain ⟨p2, n2, d2, x2, f2, g2, _, j2⟩ := fits25 (m := m + 2) (cs := [a2]) (by simpa [c22, c25] using h 2 _ rfl)
    obtain ⟨p3, n3, d3, x3, f3, g3, _, j3⟩ := fits25 (m := m + 2) (cs := [a3]) (by simpa [c22, c25] using h 3 _ rfl)
    have b2 : Bk Try.prog w B 3 25 [a2] := by simpa [c22, c25] using hb 2 _ rfl
    have b3 : Bk Try.prog w B 3 25 [a3] := by simpa [c22, c25] using hb 3 _ rfl
    simp only [List.cons.injEq, and_true] at f0 f1 f2 f3
    subst f0 f1 f2 f3
    unfold Bk at b2 b3; rw [Try.underlying25] at b2 b3
    have m2 := (b2 _ _ _ rfl).1
    have m3 := (b3 _ _ _ rfl).1
    exact ⟨(p0, n0, d0), (p1, n1, d1), (p2, n2, d2), (p3, n3, d3), e0, e1, x2, x3, rfl, ⟨g0, i0, j0, k0, l0⟩, ⟨i1, j1, l1⟩, ⟨g2, by simp only []; omega, j2.1⟩, by simp only []; omega, j3.1⟩
theorem asked_of {H : Type} {enc : TypeId × Value → H} {W : World} {base : Nat} {v : Value} {d : DataW H} {ps : List MemPlace}
    (hv : Value.okWide Try.prog W .any base 42 v) (h : DataW.Trod enc Try.prog W 0 (fun _ => true) true 42 v d ps) (hB : Rows.uptoBulk d ≤ 1048576) :
    ∃ (t u c d : Sl) (es eu : List En) (xs ys : List Int), v = .agg #[.slice t.1 t.2.1 t.2.2, .slice u.1 u.2.1 u.2.2, .slice c.1 c.2.1 c.2.2, .slice d.1 d.2.1 d.2.2] ∧ (t.2.1 ≤ t.2.2 ∧ t.2.1 ≤ 1048576 ∧ RdE W t.1 t.2.1 es ∧ Rc W t.1 es ∧ ∀ x ∈ es, OkE x) ∧ (u.2.1 ≤ 1048576 ∧ RdE W u.1 u.2.1 eu ∧ ∀ x ∈ eu, OkE x) ∧
      (c.2.1 ≤ c.2.2 ∧ c.2.1 ≤ 1048576 ∧ RdL W c.1 c.2.1 xs) ∧ d.2.1 ≤ 1048576 ∧ RdL W d.1 d.2.1 ys := by
  obtain ⟨cs, rfl⟩ := agg_of_struct Try.underlying42 hv
  obtain ⟨t, u, c, d', es, eu, xs, ys, e, r⟩ := fits42 (m := 0) (Nat.le_refl _) (fits_of h 5) (bk_of h hB 4)
  refine ⟨t, u, c, d', es, eu, xs, ys, ?_, r⟩
  have e' : cs = #[sv t, sv u, sv c, sv d'] := Array.toList_inj.1 (by rw [← e]; rfl)
  rw [e']; rfl
end Go.Proofs.Ytlbpllpomdjooaa.Learn
