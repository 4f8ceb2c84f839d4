/- ApartInts: the walk's first half, and the whole. -/
import Derived.Test.YtkpoagdhekimpaaApB2
set_option linter.unusedVariables false
set_option linter.unusedSimpArgs false
set_option maxRecDepth 100000
namespace Go.Proofs.Ytkpoagdhekimpaa.Apart
open Go Go.Proofs.Ytkpoagdhekimpaa.Vc Go.Proofs.Ytkpoagdhekimpaa.T

section
variable {w : World} {p : Option Addr} {n c : Nat} {xs : List Sl} {Y : Nat → List B → Prop} {o : Nat → Int}
/-- both are as marked -/
def W3 (a0 : Option Addr) (a0n : Nat) (v24 : Option Addr) (v24n : Nat) (w6 : World) (R : Value → World → Prop) : Prop :=
  lp (σ := Int × Unit) (fun s55 w13 k54 => match s55 with
    | (v53, _) =>
    pif (decide (v53 < (a0n : Int))) (
      lp (σ := Int × Unit) (fun s60 w14 k59 => match s60 with
        | (v58, _) =>
        ixA v24 v24n v53 1 fun p62 =>
        ldC w14 p62 fun x63 x63n x63c =>
        pif (decide (v58 < (x63n : Int))) (
          ixA v24 v24n v53 1 fun p64 =>
          ldC (World.drew w14) p64 fun x65 x65n x65c =>
          ixA x65 x65n v58 2 fun p66 =>
          ldI .i64 (World.drew w14) (p66.add 0) fun x67 =>
          ldB (World.drew w14) (p66.add 1) fun x68 =>
          cl Try.prog 34 [.int .i64 v53, .int .i64 v58] (World.drew w14) fun e70 w15 => ∃ x69 : Int, e70 = Ending.returned (.int .i64 x69) ∧
          (
            ldI .i64 w15 (p66.add 0) fun x71 =>
            ldB w15 (p66.add 1) fun x72 =>
            ((.agg #[.int .i64 x71, .bool x72] : Value) = .agg #[.int .i64 x67, .bool x68])) ∧
          (
            ldC w15 p64 fun x73 x73n x73c =>
            ((.slice x73 x73n x73c : Value) = .slice x65 x65n x65c)) ∧
          eqV Try.prog .eql 50 (.agg #[.int .i64 x67, .bool x68]) (.agg #[.int .i64 x69, .bool ((Int.tmod (IntKind.wrap .i64 (v53 + v58)) 2) == 0)]) fun q74 =>
          gd (α := Addr) (!(!q74)) (fun k75 =>
            ixA a0 a0n v53 1 fun p76 =>
            k75 p76 w15) ⟨0, 0, none⟩ w15 fun x77 _ =>
          gd (α := (Option Addr × Nat × Nat)) (!(!q74)) (fun k78 =>
            ldC w15 x77 fun x79 x79n x79c =>
            k78 (x79, x79n, x79c) w15) (none, 0, 0) w15 fun x80 _ =>
          gd (α := Addr) ((!(!q74)) && (decide (v58 < (x80.2.1 : Int)))) (fun k81 =>
            ixA a0 a0n v53 1 fun p82 =>
            k81 p82 w15) ⟨0, 0, none⟩ w15 fun x83 _ =>
          gd (α := (Option Addr × Nat × Nat)) ((!(!q74)) && (decide (v58 < (x80.2.1 : Int)))) (fun k84 =>
            ldC w15 x83 fun x85 x85n x85c =>
            k84 (x85, x85n, x85c) w15) (none, 0, 0) w15 fun x86 _ =>
          gd (α := Addr) ((!(!q74)) && (decide (v58 < (x80.2.1 : Int)))) (fun k87 =>
            ixA x86.1 x86.2.1 v58 2 fun p88 =>
            k87 p88 w15) ⟨0, 0, none⟩ w15 fun x89 _ =>
          gd (α := (Int × Bool × Unit)) ((!(!q74)) && (decide (v58 < (x80.2.1 : Int)))) (fun k90 =>
            ldI .i64 w15 (x89.add 0) fun x91 =>
            ldB w15 (x89.add 1) fun x92 =>
            k90 (x91, x92, ()) w15) (0, false, ()) w15 fun x93 _ =>
          gd (α := Int) ((!(!q74)) && (decide (v58 < (x80.2.1 : Int)))) (fun k94 =>
            cl Try.prog 34 [.int .i64 v53, .int .i64 v58] w15 fun e96 w16 => ∃ x95 : Int, e96 = Ending.returned (.int .i64 x95) ∧
            k94 x95 w16) 0 w15 fun x97 w17 =>
          (((!(!q74)) && (decide (v58 < (x80.2.1 : Int)))) = true →
            ldI .i64 w17 (x89.add 0) fun x98 =>
            ldB w17 (x89.add 1) fun x99 =>
            ((.agg #[.int .i64 x98, .bool x99] : Value) = .agg #[.int .i64 x93.1, .bool x93.2.1])) ∧
          (((!(!q74)) && (decide (v58 < (x80.2.1 : Int)))) = true →
            ldC w17 x83 fun x100 x100n x100c =>
            ((.slice x100 x100n x100c : Value) = .slice x86.1 x86.2.1 x86.2.2)) ∧
          gd (α := Bool) ((!(!q74)) && (decide (v58 < (x80.2.1 : Int)))) (fun k101 =>
            eqV Try.prog .eql 50 (.agg #[.int .i64 x93.1, .bool x93.2.1]) (.agg #[.int .i64 x97, .bool ((Int.tmod (IntKind.wrap .i64 (v53 + v58)) 2) == 0)]) fun q102 =>
            k101 q102 w17) false w17 fun x103 _ =>
          pif (cond (!q74) true (cond (decide (v58 < (x80.2.1 : Int))) (!x103) false)) (
            R (.bool false) w17) (
            k59 ((IntKind.wrap .i64 (v58 + 1)), ()) w17)) (
          k54 ((IntKind.wrap .i64 (v53 + 1)), ()) w14)) (0, ()) w13) (
      W4 a0 a0n v24 v24n w13 R)) (0, ()) w6
theorem w3 {v24 : Option Addr} {d : Nat} {gs : List Sl} (h : Ls w (-1) p n c xs Mk o) (hg : Ls w (-2) v24 n d gs Mk o) (hn : n ≤ 1099511627776) (hs : ∀ (k : Nat) (x : Sl), xs[k]? = some x → x.2.1 ≤ 1099511627776)
    (hgs : ∀ (k : Nat) (x : Sl), gs[k]? = some x → x.2.1 ≤ 1099511627840)
    {R : Value → World → Prop} (hR : ∀ w', Keep Vc.None w w' → W4 p n v24 n w' R) : W3 p n v24 n w R := by
  unfold W3
  refine lp_of (fun s w1 => ∃ k : Nat, s.1 = k ∧ k ≤ n ∧ Keep Vc.None w w1) (fun s _ => (n - s.1).toNat) ⟨0, rfl, Nat.zero_le _, Keep.refl _ _⟩ ?_
  rintro ⟨k', ⟨⟩⟩ w1 ⟨k, rfl, hk, k1⟩
  simp only []
  refine pif_of (fun hlt => ?_) fun hge => hR w1 k1
  have hlt : k < n := by simpa using hlt
  rw [wrap_nat k (by omega)]
  obtain ⟨x, hx⟩ := getE (show k < xs.length by have := h.len; omega)
  obtain ⟨g, hgk⟩ := getE (show k < gs.length by have := hg.len; omega)
  have hsx := hs k x hx
  have hsg := hgs k g hgk
  refine lp_of (fun s w2 => ∃ i : Nat, s.1 = i ∧ i ≤ g.2.1 ∧ Keep Vc.None w w2) (fun s _ => (g.2.1 - s.1).toNat) ⟨0, rfl, Nat.zero_le _, k1⟩ ?_
  rintro ⟨i', ⟨⟩⟩ w2 ⟨i, rfl, hi, k2⟩
  simp only []
  have h2 := h.keep0 k2
  have hg2 := hg.keep0 k2
  refine hg2.rd hlt fun x' hx' => ?_
  rw [hgk] at hx'; injection hx' with hx'; subst hx'
  refine pif_of (fun hlt2 => ?_) fun hge2 => ⟨⟨k + 1, rfl, hlt, k2⟩, by omega⟩
  have hlt2 : i < g.2.1 := by simpa using hlt2
  have kd : Keep Vc.None w w2.drew := k2.drew
  have hd := h.keep0 kd
  have hgd := hg.keep0 kd
  refine hgd.at hlt fun x' b hx' hb hcell => ldC_of (x := x'.1) (n := x'.2.1) (c := x'.2.2) hcell ?_
  rw [hgk] at hx'; injection hx' with hx'; subst hx'
  have hOg := own_mk hgd hgk
  have hat := mks_at (k := k) hlt2
  refine own_rd2 hOg hlt2 hat fun a ha ha' => ldI_of ha (ldB_of ha' ?_)
  refine cl_of ok34 (mark _ _ _) fun e w3 ⟨he, hw⟩ => ⟨_, he, ldI_of (by rw [hw]; exact ha) (ldB_of (by rw [hw]; exact ha') rfl), ldC_of (by rw [hw]; exact hcell) rfl, ?_⟩
  subst hw
  refine eqB (mkB k i) ?_
  have eb : (!(!true)) = true := rfl
  refine gd_t eb (hd.at hlt fun x' b2 hx' hb2 hc2 => gd_t eb (ldC_of (x := x'.1) (n := x'.2.1) (c := x'.2.2) hc2 ?_))
  rw [hx] at hx'; injection hx' with hx'; subst hx'
  have hOx := own_mk hd hx
  rw [wrap_nat i (by omega)]
  have fin : ∀ w', Keep Vc.None w w' → (∃ j : Nat, ((i + 1 : Nat) : Int) = j ∧ j ≤ g.2.1 ∧ Keep Vc.None w w') ∧ ((g.2.1 : Int) - ((i + 1 : Nat) : Int)).toNat < ((g.2.1 : Int) - (i : Int)).toNat := fun w' k' => ⟨⟨i + 1, rfl, hlt2, k'⟩, by omega⟩
  by_cases hix : i < x.2.1
  · have ec : ((!(!true)) && (decide ((i : Int) < (x.2.1 : Int)))) = true := by simpa using hix
    have hatx := mks_at (k := k) hix
    refine gd_t ec (hd.at hlt fun x' b3 hx' hb3 hc3 => gd_t ec (ldC_of (x := x'.1) (n := x'.2.1) (c := x'.2.2) hc3 ?_))
    rw [hx] at hx'; injection hx' with hx'; subst hx'
    refine gd_t ec (own_rd2 hOx hix hatx fun a2 ha2 ha3 => gd_t ec (ldI_of ha2 (ldB_of ha3 (gd_t ec ?_))))
    refine cl_of ok34 (mark _ _ _) fun e w4 ⟨he, hw⟩ => ⟨_, he, (fun _ => ldI_of (by rw [hw]; exact ha2) (ldB_of (by rw [hw]; exact ha3) rfl)), (fun _ => ldC_of (by rw [hw]; exact hc3) rfl), ?_⟩
    subst hw
    refine gd_t ec (eqB (mkB k i) ?_)
    exact pif_f (by simp) (fin _ kd)
  · have ec : ((!(!true)) && (decide ((i : Int) < (x.2.1 : Int)))) = false := by
      have : ¬ (i : Int) < (x.2.1 : Int) := by omega
      simp [this]
    refine gd_f ec (gd_f ec (gd_f ec (gd_f ec (gd_f ec ⟨fun hh => (by rw [ec] at hh; cases hh), fun hh => (by rw [ec] at hh; cases hh), ?_⟩))))
    have : ¬ (i : Int) < (x.2.1 : Int) := by omega
    exact gd_f ec (pif_f (by simp [this]) (fin _ kd))

theorem wrap2 {a b c d : Int} (h0 : 0 ≤ a + b) (h1 : a + b ≤ 4611686018427387904) (e : a + b + c = a + d) : IntKind.wrap .i64 (IntKind.wrap .i64 (a + b) + c) = IntKind.wrap .i64 (a + d) := by
  have : IntKind.wrap .i64 (a + b) = a + b := by rw [IntKind.wrap_i64]; omega
  rw [this, e]
/-- each list, with more appended -/
def W2 (a0 : Option Addr) (a0n : Nat) (w1 : World) (R : Value → World → Prop) : Prop :=
  lp (σ := (Option Addr × Nat × Nat) × Int × Unit) (fun s27 w6 k26 => match s27 with
    | ((v24, v24n, v24c), v25, _) =>
    pif (decide (v25 < (a0n : Int))) (
      ixA a0 a0n v25 1 fun p30 =>
      ldC w6 p30 fun x31 x31n x31c =>
      lp (σ := (Option Addr × Nat × Nat) × Int × Unit) (fun s36 w7 k35 => match s36 with
        | ((v33, v33n, v33c), v34, _) =>
        pif (decide (v34 < 64)) (
          ixA a0 a0n v25 1 fun p38 =>
          ldC (World.drew w7) p38 fun x39 x39n x39c =>
          ixA a0 a0n v25 1 fun p40 =>
          ldC (World.drew w7) p40 fun x41 x41n x41c =>
          cl Try.prog 34 [.int .i64 v25, .int .i64 (IntKind.wrap .i64 ((x39n : Int) + v34))] (World.drew w7) fun e43 w8 => ∃ x42 : Int, e43 = Ending.returned (.int .i64 x42) ∧
          (
            ldC w8 p40 fun x44 x44n x44c =>
            ((.slice x44 x44n x44c : Value) = .slice x41 x41n x41c)) ∧
          alc w8 [.int .i64 x42, .bool ((Int.tmod (IntKind.wrap .i64 ((IntKind.wrap .i64 (v25 + (x41n : Int))) + v34)) 2) == 0)] 50 fun b45 w9 =>
          ∃ (x46 : Option Addr) (x46n x46c : Nat), ∃ w10 : World, (Builtin.append_ #[43, 43] 43 #[.slice v33 v33n v33c, .slice (some (⟨b45, 0, none⟩ : Addr)) 1 1]).run Try.prog w9 = .ok (.slice x46 x46n x46c) w10 ∧
          k35 ((x46, x46n, x46c), (IntKind.wrap .i64 (v34 + 1)), ()) w10) (
          alc w7 [.slice v33 v33n v33c] 43 fun b49 w11 =>
          ∃ (x50 : Option Addr) (x50n x50c : Nat), ∃ w12 : World, (Builtin.append_ #[53, 53] 53 #[.slice v24 v24n v24c, .slice (some (⟨b49, 0, none⟩ : Addr)) 1 1]).run Try.prog w11 = .ok (.slice x50 x50n x50c) w12 ∧
          k26 ((x50, x50n, x50c), (IntKind.wrap .i64 (v25 + 1)), ()) w12)) ((x31, x31n, x31c), 0, ()) w6) (
      W3 a0 a0n v24 v24n w6 R)) ((none, 0, 0), 0, ()) w1
theorem w2 {w0 : World} {o0 : Nat → Int} (h : Ls w (-1) p n c xs Mk o) (hn : n ≤ 1099511627776) (hs : ∀ (k : Nat) (x : Sl), xs[k]? = some x → x.2.1 ≤ 1099511627776)
    (hk0 : Keep (Lists o0) w0 w) (hag : Ag w0 o0 o)
    {R : Value → World → Prop} (hR : ∀ v24 d gs w' o', Ls w' (-1) p n c xs Mk o' → Ls w' (-2) v24 n d gs Mk o' → (∀ (k : Nat) (x : Sl), gs[k]? = some x → x.2.1 ≤ 1099511627840) → Keep (Lists o0) w0 w' → Ag w0 o0 o' → (∀ i, ob v24 i → w0.heap.size ≤ i) → W3 p n v24 n w' R) : W2 p n w R := by
  unfold W2
  refine lp_of (fun s w1 => ∃ (k : Nat) (gs : List Sl) (o : Nat → Int), s.2.1 = k ∧ k ≤ n ∧ s.1.2.1 = k ∧ Ls w1 (-1) p n c xs Mk o ∧ Ls w1 (-2) s.1.1 s.1.2.1 s.1.2.2 gs Mk o ∧ (∀ (k : Nat) (x : Sl), gs[k]? = some x → x.2.1 ≤ 1099511627840) ∧
      Ag w0 o0 o ∧ Keep (Lists o0) w0 w1 ∧ ∀ i, ob s.1.1 i → w0.heap.size ≤ i) (fun s _ => (n - s.2.1).toNat)
    ⟨0, [], o, rfl, Nat.zero_le _, rfl, h, ⟨Vc.Own.nil _ _ _, (fun k x hx => by simp at hx), (fun i ⟨a, h, _⟩ => by cases h), fun k x hx => by simp at hx⟩, (fun k x hx => by simp at hx), hag, hk0, fun i ⟨a, h, _⟩ => by cases h⟩ ?_
  rintro ⟨⟨q, m, d⟩, k', ⟨⟩⟩ w ⟨k, gs, o, rfl, hk, hmk, h, hg, hgs, hag, hk0, hqn⟩
  simp only [] at hmk h hg hgs hqn ⊢
  subst hmk
  have hz0 := hk0.size
  refine pif_of (fun hlt => ?_) fun hge => ?_
  · have hlt : m < n := by simpa using hlt
    rw [wrap_nat m (by omega)]
    have hgl := hg.len
    obtain ⟨x, hx⟩ := getE (show m < xs.length by have := h.len; omega)
    have hsx := hs m x hx
    refine h.rd hlt fun x' hx' => ?_
    rw [hx] at hx'; injection hx' with hx'; subst hx'
    refine lp_of (fun s w2 => ∃ (t : Nat) (o : Nat → Int), s.2.1 = t ∧ t ≤ 64 ∧ s.1.2.1 = x.2.1 + t ∧ Vc.Own w2 50 2 s.1.1 s.1.2.1 s.1.2.2 (fm (mks m s.1.2.1)) ∧ (∀ i, ob s.1.1 i → o i = m) ∧
        Ls w2 (-1) p n c xs Mk o ∧ Ls w2 (-2) q m d gs Mk o ∧ Ag w0 o0 o ∧ Keep (Lists o0) w0 w2) (fun s _ => (64 - s.2.1).toNat)
      ⟨0, o, rfl, Nat.zero_le _, rfl, own_mk h hx, h.oe m x hx, h, hg, hag, hk0⟩ ?_
    rintro ⟨⟨gp, gn, gc⟩, t', ⟨⟩⟩ w2 ⟨t, o, rfl, ht, hgn, hO, hgo, h, hg, hag, hk2⟩
    simp only [] at hgn hO hgo ⊢
    have hz2 := hk2.size
    refine pif_of (fun hlt2 => ?_) fun hge2 => ?_
    · have hlt2 : t < 64 := by simp at hlt2; omega
      rw [wrap_nat t (by omega)]
      have kd : Keep Vc.None w2 w2.drew := (Keep.refl _ _).drew
      have h := h.keep0 kd
      have hg := hg.keep0 kd
      have hO := hO.keep0 kd
      have hk2 := hk2.then0 kd
      refine h.rd hlt fun x' hx' => ?_
      rw [hx] at hx'; injection hx' with hx'; subst hx'
      refine h.at hlt fun x' b2 hx' hb2 hc2 => ldC_of (x := x'.1) (n := x'.2.1) (c := x'.2.2) hc2 ?_
      rw [hx] at hx'; injection hx' with hx'; subst hx'
      refine cl_of ok34 (mark _ _ _) fun e w3 ⟨he, hw⟩ => ⟨_, he, ldC_of (by rw [hw]; exact hc2) rfl, ?_⟩
      subst hw
      have ew : IntKind.wrap .i64 ((x.2.1 : Int) + (t : Int)) = (gn : Int) := by rw [IntKind.wrap_i64]; omega
      have ew2 : IntKind.wrap .i64 (IntKind.wrap .i64 ((m : Int) + (x.2.1 : Int)) + (t : Int)) = IntKind.wrap .i64 ((m : Int) + (gn : Int)) := wrap2 (by omega) (by omega) (by omega)
      rw [ew, ew2]
      refine app1 (g := (gp, gn, gc)) hO (by simp only []; omega) fun g' w4 e1 hO4 hd => ?_
      have hO4 : Vc.Own w4 50 2 g'.1 g'.2.1 g'.2.2 (fm (mks m gn ++ [mkB m gn])) := hO4
      simp only [] at e1 hd
      rw [← mks_succ] at hO4
      have hOx := own_mk h hx
      rcases hd with ⟨e, e2, kk⟩ | ⟨e, kk⟩
      · have hS : ∀ i, ob gp i → o i = m := hgo
        refine ⟨⟨t + 1, o, rfl, hlt2, by omega, by rw [e1]; rw [e1] at hO4; exact hO4, fun i hi => hgo i (by rw [e] at hi; exact hi), ?_, ?_, hag, keep_lists hk2 hag kk hS⟩, by omega⟩
        · refine h.turn m x hx kk hS (by omega) (ys := mks m x.2.1) ?_ ?_ fun _ _ _ h => h
          · rw [e, e2] at hO4
            exact own_pre hOx hO hO4 (by omega) (by rw [fm_take, mks_take (by omega)]) kk
          · show mks _ _ = _; rw [mks_len]
        · exact hg.keep kk (fun i hi hs => by have := hg.ow i hi; have := hS i hs; omega) fun j z hz i hi hs => by
            have := hg.oe j z hz i hi
            have := hS i hs
            have := (List.getElem?_eq_some_iff.1 hz).1
            omega
      · refine ⟨⟨t + 1, fun i => if i < w2.drew.heap.size then o i else m, rfl, hlt2, by omega, by rw [e1]; rw [e1] at hO4; exact hO4, fun i hi => if_neg (by have := e i hi; omega), (h.reown fun i hi => if_pos hi).keep0 kk, (hg.reown fun i hi => if_pos hi).keep0 kk,
          fun i hi => ?_, hk2.then0 kk⟩, by omega⟩
        show (if i < w2.drew.heap.size then o i else (m : Int)) = _
        have hz3 : w2.drew.heap.size = w2.heap.size := rfl
        rw [if_pos (by omega)]; exact hag i hi
    · have hge2 : t = 64 := by simp at hge2; omega
      subst hge2
      refine app_sl (g := (gp, gn, gc)) hg.out (by omega) fun q' d' w4 hO4 kk hq' => ?_
      have hS : ∀ i, ob q i → o i = -2 := hg.ow
      let o4 : Nat → Int := fun i => if i < w2.heap.size then o i else -2
      have ho4 : ∀ i, i < w2.heap.size → o4 i = o i := fun i hi => if_pos hi
      refine ⟨⟨m + 1, gs ++ [(gp, gn, gc)], o4, rfl, hlt, rfl, ?_, ?_, ?_, fun i hi => ?_, ?_, ?_⟩, by omega⟩
      · exact (h.keep kk (fun i hi hs => by have := h.ow i hi; have := hS i hs; omega) fun j z hz i hi hs => by have := h.oe j z hz i hi; have := hS i hs; omega) |> fun hh =>
          ⟨hh.out, hh.each, fun i hi => by rw [ho4 i (h.out.lt i hi)]; exact hh.ow i hi, fun j z hz i hi => by
            obtain ⟨ys, hOz, _⟩ := h.each j z hz
            rw [ho4 i (hOz.lt i hi)]; exact hh.oe j z hz i hi⟩
      · have hO4' : Vc.Own w4 43 1 q' (m + 1) d' ((gs ++ [(gp, gn, gc)]).map sv) := hO4
        refine ⟨hO4', fun j z hz => ?_, fun i hi => ?_, fun j z hz i hi => ?_⟩
        · by_cases hj : j < m
          · rw [List.getElem?_append_left (by omega)] at hz
            obtain ⟨ys, hOz, hy⟩ := hg.each j z hz
            exact ⟨ys, hOz.keep kk fun i hi hs => by have := hg.oe j z hz i hi; have := hS i hs; omega, hy⟩
          · have hj2 := (List.getElem?_eq_some_iff.1 hz).1
            rw [List.length_append, List.length_singleton] at hj2
            obtain rfl : j = gs.length := by omega
            rw [List.getElem?_append_right (Nat.le_refl _), Nat.sub_self, List.getElem?_cons_zero] at hz
            injection hz with hz
            subst hz
            rw [hgl]
            exact ⟨_, hO.keep kk fun i hi hs => by have := hgo i hi; have := hS i hs; omega, by show mks _ _ = _; rw [mks_len]⟩
        · rcases hq' i hi with h1 | h1
          · rw [ho4 i (hg.out.lt i h1)]; exact hS i h1
          · exact if_neg (by omega)
        · by_cases hj : j < m
          · rw [List.getElem?_append_left (by omega)] at hz
            obtain ⟨ys, hOz, hy⟩ := hg.each j z hz
            rw [ho4 i (hOz.lt i hi)]
            exact hg.oe j z hz i hi
          · have hj2 := (List.getElem?_eq_some_iff.1 hz).1
            rw [List.length_append, List.length_singleton] at hj2
            obtain rfl : j = gs.length := by omega
            rw [List.getElem?_append_right (Nat.le_refl _), Nat.sub_self, List.getElem?_cons_zero] at hz
            injection hz with hz
            subst hz
            rw [ho4 i (hO.lt i hi), hgl]
            exact hgo i hi
      · intro j z hz
        by_cases hj : j < m
        · rw [List.getElem?_append_left (by omega)] at hz
          exact hgs j z hz
        · have hj2 := (List.getElem?_eq_some_iff.1 hz).1
          rw [List.length_append, List.length_singleton] at hj2
          obtain rfl : j = gs.length := by omega
          rw [List.getElem?_append_right (Nat.le_refl _), Nat.sub_self, List.getElem?_cons_zero] at hz
          injection hz with hz
          subst hz
          simp only []; omega
      · rw [ho4 i (by omega)]; exact hag i hi
      · exact hk2.trans kk fun i hi hs => by have := hqn i hs; omega
      · intro i hi
        rcases hq' i hi with h1 | h1
        · exact hqn i h1
        · omega
  · have hge : m = n := by simp at hge; omega
    subst hge
    exact hR q d gs w o h hg hgs hk0 hag hqn

theorem apart (h : Ls w (-1) p n c xs (fun _ _ => True) o) (hn : n ≤ 1099511627776) (hs : ∀ (k : Nat) (x : Sl), xs[k]? = some x → x.2.1 ≤ 1099511627776) :
    Calls Try.prog 25 #[.slice p n c] w fun e w' => e = .returned (.bool true) ∧ Keep (Lists o) w w' := by
  refine (V25_calls p n c w (Done o w) ?_).mono fun e w' ⟨v, he, hv, hk⟩ => ⟨by rw [he, hv], hk⟩
  unfold V25
  refine lp_of (fun s w1 => ∃ k : Nat, s.1 = k ∧ k ≤ n ∧ Ls w1 (-1) p n c xs (fun j ys => j < k → Mk j ys) o ∧ Keep (Lists o) w w1) (fun s _ => (n - s.1).toNat)
    ⟨0, rfl, Nat.zero_le _, h.mono fun _ _ _ _ _ _ hh => by omega, Keep.refl _ _⟩ ?_
  rintro ⟨k', ⟨⟩⟩ w1 ⟨k, rfl, hk, h1, k1⟩
  simp only []
  refine pif_of (fun hlt => ?_) fun hge => ?_
  · have hlt : k < n := by simpa using hlt
    rw [wrap_nat k (by omega)]
    obtain ⟨x, hx⟩ := getE (show k < xs.length by have := h.len; omega)
    have hsx := hs k x hx
    refine lp_of (fun s w2 => ∃ i : Nat, s.1 = i ∧ i ≤ x.2.1 ∧ Ls w2 (-1) p n c xs (fun j ys => (j < k → Mk j ys) ∧ (j = k → ys.take i = mks k i)) o ∧ Keep (Lists o) w w2) (fun s _ => (x.2.1 - s.1).toNat)
      ⟨0, rfl, Nat.zero_le _, h1.mono fun _ _ _ _ _ hy => ⟨hy, fun _ => rfl⟩, k1⟩ ?_
    rintro ⟨i', ⟨⟩⟩ w2 ⟨i, rfl, hi, h2, k2⟩
    simp only []
    refine h2.rd hlt fun x' hx' => ?_
    rw [hx] at hx'; injection hx' with hx'; subst hx'
    refine pif_of (fun hlt2 => ?_) fun hge2 => ?_
    · have hlt2 : i < x.2.1 := by simpa using hlt2
      have kd : Keep Vc.None w2 w2.drew := (Keep.refl _ _).drew
      have hd := h2.keep0 kd
      rw [wrap_nat i (by omega)]
      refine hd.at hlt fun x' b hx' hb hcell => ldC_of (x := x'.1) (n := x'.2.1) (c := x'.2.2) hcell ?_
      rw [hx] at hx'; injection hx' with hx'; subst hx'
      refine cl_of ok34 (mark _ _ _) fun e w3 ⟨he, hw⟩ => ⟨_, he, ldC_of (by rw [hw]; exact hcell) rfl, ?_⟩
      subst hw
      obtain ⟨ys, hO, hy1, hy2⟩ := hd.each k x hx
      have hyl := own_len hO
      refine own_wr hO hlt2 fun w4 hO4 k4 => ?_
      have hS := hd.oe k x hx
      refine ⟨⟨i + 1, rfl, hlt2, hd.turn k x hx k4 hS (by omega) hO4 ⟨fun hh => by omega, fun _ => ?_⟩ fun j zs hj hz => ⟨hz.1, fun e => absurd e hj⟩, keep_lists (k2.then0 kd) (fun _ _ => rfl) k4 hS⟩, by omega⟩
      rw [mks_succ, ← hy2 rfl, List.take_add_one, List.take_set_of_le (Nat.le_refl _), List.getElem?_set_self (by omega)]
      rfl
    · have hge2 : i = x.2.1 := by simp at hge2; omega
      subst hge2
      obtain ⟨ys, hO, hy1, hy2⟩ := h2.each k x hx
      refine ⟨⟨k + 1, rfl, hlt, h2.mono fun j z zs hz hzl hh hj => ?_, k2⟩, by omega⟩
      by_cases hjk : j = k
      · subst hjk
        rw [hx] at hz; injection hz with hz; subst hz
        have := hh.2 rfl
        rw [List.take_of_length_le (by omega)] at this
        show zs = _
        rw [hzl]; exact this
      · exact hh.1 (by omega)
  · have hge : k = n := by simp at hge; omega
    subst hge
    have hM : Ls w1 (-1) p k c xs Mk o := h1.mono fun j z zs hz _ hh => hh (by have := (List.getElem?_eq_some_iff.1 hz).1; have := h1.len; omega)
    refine w2 (R := Done o w) hM hn hs k1 (fun _ _ => rfl) fun v24 d gs wa oa hA hG hgs ka aga hqn => ?_
    refine w3 hA hG hn hs hgs fun wb kb => ?_
    exact w4 (hA.keep0 kb) ⟨(hG.keep0 kb).out, hG.ow, fun j g z hj => by omega⟩ hn hs (ka.then0 kb) aga hqn fun w' k' => ⟨rfl, k'⟩
end
end Go.Proofs.Ytkpoagdhekimpaa.Apart
