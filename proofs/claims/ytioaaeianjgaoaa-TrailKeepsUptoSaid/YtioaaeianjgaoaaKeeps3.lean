/- TrailKeeps: the law's walk. -/
import Derived.Test.YtioaaeianjgaoaaKeeps2
set_option linter.unusedVariables false
set_option linter.unusedSimpArgs false
set_option maxRecDepth 100000
namespace Go.Proofs.Ytioaaeianjgaoaa.Trail
open Go Go.Proofs.Ytioaaeianjgaoaa.Vc Go.Proofs.Ytioaaeianjgaoaa.T Go.Proofs.Ytioaaeianjgaoaa.Apart

theorem OpL.keep0 {w w' : World} {sp : Option Addr} {m : Nat} (h : OpL w sp m) (hk : Keep None w w') : OpL w' sp m := fun i hi => by
  obtain ⟨a, on, kd, x, y, p, nc, c, cs, e, c0, c1, c2, c3, c4, r0, r1, r2, r3, hs⟩ := h i hi
  exact ⟨a, on, kd, x, y, p, nc, c, cs, e, hk.cell c0 fun h => h, hk.cell c1 fun h => h, hk.cell c2 fun h => h, hk.cell c3 fun h => h, hk.cell c4 fun h => h, r0, r1, r2, r3, hs.keep0 hk⟩
theorem Went.keep {n : Nat} {w0 w : World} {T0 : TI} {M0 : MI} {N : Nat} {s : (Option Addr × Nat × Nat) × (Option Addr × Nat × Nat)} (h : Went n w0 T0 M0 N s w) : Keep None w0 w := by
  obtain ⟨T, M, R, L, xs, ws, C, o, e1, e2, e3, e4, e5, hK⟩ := h
  exact hK.keep

theorem law7 (v0 v1 : Int) (sp : Option Addr) (m c : Nat) (p : Option Addr) (nc cc : Nat) (cs : List Int) (w : World) (hv : i64 v0) (hm : m ≤ 1048576) (hS : OpL w sp m) (hc : SlL w p nc cs) (hnc : nc ≤ 1048576) :
    Calls Try.prog 7 #[.agg #[I v0, I v1, .slice sp m c], .slice p nc cc] w fun e w' => e = .returned (.bool true) ∧ RowKit.Below w.heap.size w w' := by
  refine (V7_calls v0 v1 sp m c p nc cc w (Yes2 w) ?_).mono fun e w' ⟨v, he, hv, hk⟩ => ⟨by rw [he, hv], hk.below0⟩
  unfold V7
  refine alc_at fun b w1 hb hB k1 => ?_
  refine cl_of ok21 (live21 w1) fun e w2 ⟨he, k2⟩ => ⟨_, he, pif_f rfl ?_⟩
  simp only [add_mk, Nat.zero_add, Nat.add_zero]
  refine ixA_of1 (by omega) (by omega) (ldI_of ((hB.keep0 k2).cell 0) ?_)
  have m1 := Int.emod_nonneg v0 (show (41 : Int) ≠ 0 by omega)
  have m2 := Int.emod_lt_of_pos v0 (show (0 : Int) < 41 by omega)
  refine cl_of ok23 (pick23 v0 41 w2 hv (by omega)) fun e w3 ⟨he, hw⟩ => ⟨_, he, ?_⟩
  subst hw
  have hn : v0 % 41 = ((v0 % 41).toNat : Int) := by omega
  rw [hn]
  have hn41 : (v0 % 41).toNat ≤ 40 := by omega
  generalize (v0 % 41).toNat = n at *
  refine cl_of ok9 (new9 _ w3) fun e w4 ⟨r, he, k4, hr⟩ => ?_
  rcases hr with ⟨hno, _⟩ | ⟨_, T, hF, rfl, hT⟩
  · omega
  refine ⟨_, _, he, ?_⟩
  refine cl_of ok27 (new27 _ w4) fun e w5 ⟨r, he, k5, hr⟩ => ?_
  rcases hr with ⟨hno, _⟩ | ⟨_, M, hG, rfl, hM⟩
  · omega
  refine ⟨_, _, he, pif_f rfl ?_⟩
  rw [Int.toNat_natCast] at hT hM
  have z1 := k1.size
  have z2 := k2.size
  have z4 := k4.size
  have z5 := k5.size
  have hTlt := hT.lt
  let o : Nat → Int := fun i => if i < w1.heap.size then -9 else if i < w4.heap.size then -3 else -6
  have hT5 := hT.keep k5 fun _ _ h => h
  have hK0 : Kp n w1 w5 T M [] [] [] 0 none 0 [] [] none 0 [] [] o := by
    refine ⟨Tr.new hT5, hM, ⟨Own.nil _ _ _, (fun k x hx => by simp at hx), (fun i ⟨a, hh, _⟩ => by cases hh), fun k x hx => by simp at hx⟩, ⟨Own.nil _ _ _, (fun k x hx => by simp at hx), (fun i ⟨a, hh, _⟩ => by cases hh), fun k x hx => by simp at hx⟩,
      fun i hi => ?_, fun i hi => ?_, fun i hi => if_pos hi, (k2.then0 k4).then0 k5, fun l hl => by cases hl⟩
    · have := hF i hi
      have := hTlt i hi
      show (if i < w1.heap.size then -9 else if i < w4.heap.size then -3 else -6) = (-3 : Int)
      rw [if_neg (by omega), if_pos (by omega)]
    · have := hG i hi
      show (if i < w1.heap.size then -9 else if i < w4.heap.size then -3 else -6) = (-6 : Int)
      rw [if_neg (by omega), if_neg (by omega)]
  refine lp_of (fun s w6 => ∃ i : Nat, s.2.2.1 = i ∧ i ≤ m ∧ Went n w1 T M (2 * i) (s.1, s.2.1) w6) (fun s _ => (m - s.2.2.1).toNat)
    ⟨0, rfl, Nat.zero_le _, T, M, [], [], [], [], [], o, rfl, rfl, by simp, rfl, rfl, hK0⟩ ?_
  rintro ⟨⟨u, um, uc⟩, ⟨v, vm, vc⟩, i', ⟨⟩⟩ w6 ⟨i, rfl, hi, hW⟩
  simp only [] at hW ⊢
  have k6 := hW.keep
  have hB6 := hB.keep0 k6
  refine ldC_of (hB6.cell 2) (pif_of (fun hlt => ?_) fun hge => ?_)
  · have hlt : i < m := by simpa using hlt
    rw [wrap_nat i (by omega)]
    refine ⟨fun s w7 => Went n w1 T M (2 * i + 2) (s.1, s.2.1) w7, ?_, ?_⟩
    · refine ldC_of (hB6.cell 2) ?_
      have hS6 := (hS.keep0 k1).keep0 k6
      obtain ⟨a, on, kd, x, y, op, onc, oc, ocs, rfl, c0, c1, c2, c3, c4, r0, r1, r2, r3, hs⟩ := hS6 i hlt
      refine ⟨by omega, by omega, ?_⟩
      show nn (some a) _
      rw [Int.toNat_natCast]
      show ldI _ _ _ _
      refine ldI_of c0 (ldI_of c1 (ldI_of c2 (ldI_of c3 (ldC_of c4 ?_))))
      refine alc_at fun b7 w7 hb7 h7 k7 => ?_
      refine st_of h7 (by simp) rfl fun w8 h8 k8 _ => ?_
      refine st_of h8 (by simp) rfl fun w9 h9 k9 _ => ?_
      refine st_of h9 (by simp) rfl fun w10 h10 k10 _ => ?_
      refine st_of h10 (by simp) rfl fun w11 h11 k11 _ => ?_
      refine st_of h11 (by simp) rfl fun w12 h12 k12 _ => ?_
      have kk : Keep None w6 w12 := ((((k7.then1 k8 (by omega)).then1 k9 (by omega)).then1 k10 (by omega)).then1 k11 (by omega)).then1 k12 (by omega)
      simp only [List.set_cons_zero, List.set_cons_succ] at h12
      refine ldI_of (h12.cell 1) ?_
      refine cl_of ok23 (pick23 kd 5 w12 r1 (by omega)) fun e w13 ⟨he, hw⟩ => ⟨_, he, ?_⟩
      subst hw
      exact call7 (s := ((u, um, uc), (v, vm, vc))) hW kk (by omega) h12 r2 r3 (by omega) (kd % 5) fun s' w' h' => h'
    · rintro ⟨⟨u', um', uc'⟩, ⟨v', vm', vc'⟩, ⟨⟩⟩ w7 h7
      simp only [] at h7 ⊢
      exact ⟨⟨i + 1, rfl, hlt, by rw [Nat.mul_add]; exact h7⟩, by omega⟩
  · have hge : i = m := by simp at hge; omega
    subst hge
    obtain ⟨T1, M1, R, L, xs, ws, C, o, e1, e2, hCN, e4, e5, h⟩ := hW
    simp only [] at e1 e2 h
    subst e1 e2
    rw [← e4, ← e5]
    have hc6 := (hc.keep0 k1).keep0 k6
    refine cl_of ok33 (looks33 h.b2 hc6 (by omega)) fun e w7 ⟨he, k7⟩ => ⟨_, he, pif_f rfl ?_⟩
    have h7 := h.keep0 k7
    refine lp_of (fun s w8 => ∃ j : Nat, s.1 = j ∧ j ≤ C.length ∧ Keep None w7 w8) (fun s _ => (C.length - s.1).toNat) ⟨0, rfl, Nat.zero_le _, Keep.refl _ _⟩ ?_
    rintro ⟨j', ⟨⟩⟩ w8 ⟨j, rfl, hj, k8⟩
    simp only []
    refine pif_of (fun hlt => ?_) fun hge => ?_
    · have hlt : j < C.length := by simpa using hlt
      rw [wrap_nat j (by omega)]
      have kd : Keep None w7 w8.drew := k8.drew
      have h8 := h7.keep0 kd
      refine h8.ls.rd hlt fun x hx => ?_
      obtain ⟨y, hy⟩ := getE (show j < ws.length by have := h8.wn.out.len; simp at this; omega)
      refine h8.wn.out.ix (by omega) (by omega) fun b2 hb2 => ?_
      have hcell : w8.drew.cell? ⟨b2, ((j : Nat) : Int).toNat * 1, none⟩ = some (sv y) := by
        have := h8.wn.out
        rw [hb2] at this
        rw [this.cell _ (by omega), Nat.mul_one, Int.toNat_natCast, List.getElem?_map, hy]; rfl
      refine ldC_of (x := y.1) (n := y.2.1) (c := y.2.2) hcell ?_
      obtain ⟨l1, hO1, hl1⟩ := h8.ls.each j x hx
      obtain ⟨l2, hO2, hl2⟩ := h8.wn.each j y hy
      rw [hl1] at hl2
      injection hl2 with hl2
      subst hl2
      have hgd := h8.good l1 (List.mem_of_getElem? hl1)
      refine cl_of ok19 (same19 (Own.slL hO1 hgd.2) (Own.slL hO2 hgd.2)) fun e w9 ⟨he, k9⟩ => ⟨_, he, ?_⟩
      exact pif_f (by simp) ⟨⟨j + 1, rfl, hlt, kd.then0 k9⟩, by omega⟩
    · have h8 := h7.keep0 k8
      have hs := h8.tr.small
      refine cl_of ok10 h8.tr.lits fun e wa ⟨v, he, ⟨p1, c1, hv1, hO1, hf1⟩, ka⟩ => ⟨p1, _, c1, he.trans (congrArg Ending.returned hv1), ?_⟩
      obtain ⟨oa, aa, Pa, ha⟩ := h8.fresh ka (a := (p1, (lits R).length, c1)) hO1 hf1 (C.length : Nat)
      refine cl_of ok11 ha.tr.marks fun e wb ⟨v, he, ⟨p2, c2, hv2, hO2, hf2⟩, kb⟩ => ⟨p2, _, c2, he.trans (congrArg Ending.returned hv2), ?_⟩
      obtain ⟨ob', ab, Pb, hb⟩ := ha.fresh kb (a := (p2, L.length, c2)) hO2 hf2 ((C.length + 1 : Nat) : Int)
      have Pa := Pa.step0 ab kb
      refine hb.push [((p1, (lits R).length, c1), lits R), ((p2, L.length, c2), L)] (fun j a hj => ?_) (fun a ha => ?_) (by simp only [List.length_cons, List.length_nil]; omega) fun p' c' wc oc' ac kc h9 => ?_
      · match j, hj with
        | 0, hj => simp only [List.getElem?_cons_zero, Option.some.injEq] at hj; subst hj; exact Pa
        | 1, hj => simp only [List.getElem?_cons_succ, List.getElem?_cons_zero, Option.some.injEq] at hj; subst hj; exact Pb
        | j + 2, hj => simp at hj
      · simp only [List.mem_cons, List.not_mem_nil, or_false] at ha
        rcases ha with rfl | rfl
        · exact ⟨by rw [lits_len]; omega, fun x hx => h8.tr.wfL x hx⟩
        · exact ⟨by simp only []; omega, fun x hx => h8.tr.wfM x hx⟩
      have hls := h9.ls
      have hgd := h9.good
      have hap := apart (hls.mono fun _ _ _ _ _ _ => trivial) (by simp; omega) fun k x hx => by
        obtain ⟨ys, hO, hy⟩ := hls.each k x hx
        have := own_len hO
        have := (hgd ys (List.mem_of_getElem? hy)).1
        omega
      simp only [List.map_cons, List.map_nil, List.length_append, List.length_cons, List.length_nil] at hap
      refine cl_of ok34 hap fun e wd ⟨he, kd⟩ => ⟨_, he, pif_f rfl ?_⟩
      have hB2 : B2 n wd T1 M1 R L := ⟨h9.tr.keep kd fun i hi (hh : 0 ≤ oc' i) => by have := h9.ot i hi; omega, h9.mr.keep kd fun i hi (hh : 0 ≤ oc' i) => by have := h9.om i hi; omega, h9.b2.dis⟩
      have kkd : Keep None w1 wd := h9.keep.trans kd fun i hi (hh : 0 ≤ oc' i) => by have := h9.old i hi; omega
      refine cl_of ok35 (whole35 hB2) fun e we ⟨he, ke⟩ => ⟨_, he, ?_⟩
      have kke := kkd.then0 ke
      refine gd_t rfl (cl_of ok33 (looks33 (hB2.keep0 ke) ((hc.keep0 k1).keep0 kke) (by omega)) fun e wf ⟨he, kf⟩ => ⟨_, he, rfl, ?_⟩)
      exact k1.then0 (kke.then0 kf)
end Go.Proofs.Ytioaaeianjgaoaa.Trail
