/- ApartInts: the walk's first half, and the whole. -/
import Derived.Test.YtlbpllpomdjooaaApart2
set_option linter.unusedVariables false
set_option linter.unusedSimpArgs false
set_option maxRecDepth 100000
namespace Go.Proofs.Ytlbpllpomdjooaa.Apart
open Go Go.Proofs.Ytlbpllpomdjooaa.Vc Go.Proofs.Ytlbpllpomdjooaa.T

section
variable {w : World} {p : Option Addr} {n c : Nat} {xs : List Sl} {Y : Nat → List Int → Prop} {o : Nat → Int}
/-- both are as marked -/
def W3 (a0 : Option Addr) (a0n : Nat) (v24 : Option Addr) (v24n : Nat) (w5 : World) (R : Value → World → Prop) : Prop :=
  lp (σ := Int × Unit) (fun s53 w12 k52 => match s53 with
    | (v51, _) =>
    pif (decide (v51 < (a0n : Int))) (
      lp (σ := Int × Unit) (fun s58 w13 k57 => match s58 with
        | (v56, _) =>
        ixA v24 v24n v51 1 fun p60 =>
        ldC w13 p60 fun x61 x61n x61c =>
        pif (decide (v56 < (x61n : Int))) (
          ixA v24 v24n v51 1 fun p62 =>
          ldC (World.drew w13) p62 fun x63 x63n x63c =>
          ixA x63 x63n v56 1 fun p64 =>
          ldI .i64 (World.drew w13) p64 fun x65 =>
          cl Try.prog 54 [.int .i64 v51, .int .i64 v56] (World.drew w13) fun e67 w14 => ∃ x66 : Int, e67 = Ending.returned (.int .i64 x66) ∧
          (
            ldI .i64 w14 p64 fun x68 =>
            ((.int .i64 x68 : Value) = .int .i64 x65)) ∧
          (
            ldC w14 p62 fun x69 x69n x69c =>
            ((.slice x69 x69n x69c : Value) = .slice x63 x63n x63c)) ∧
          gd (α := Addr) (!(!(x65 == x66))) (fun k70 =>
            ixA a0 a0n v51 1 fun p71 =>
            k70 p71 w14) ⟨0, 0, none⟩ w14 fun x72 _ =>
          gd (α := (Option Addr × Nat × Nat)) (!(!(x65 == x66))) (fun k73 =>
            ldC w14 x72 fun x74 x74n x74c =>
            k73 (x74, x74n, x74c) w14) (none, 0, 0) w14 fun x75 _ =>
          gd (α := Addr) ((!(!(x65 == x66))) && (decide (v56 < (x75.2.1 : Int)))) (fun k76 =>
            ixA a0 a0n v51 1 fun p77 =>
            k76 p77 w14) ⟨0, 0, none⟩ w14 fun x78 _ =>
          gd (α := (Option Addr × Nat × Nat)) ((!(!(x65 == x66))) && (decide (v56 < (x75.2.1 : Int)))) (fun k79 =>
            ldC w14 x78 fun x80 x80n x80c =>
            k79 (x80, x80n, x80c) w14) (none, 0, 0) w14 fun x81 _ =>
          gd (α := Addr) ((!(!(x65 == x66))) && (decide (v56 < (x75.2.1 : Int)))) (fun k82 =>
            ixA x81.1 x81.2.1 v56 1 fun p83 =>
            k82 p83 w14) ⟨0, 0, none⟩ w14 fun x84 _ =>
          gd (α := Int) ((!(!(x65 == x66))) && (decide (v56 < (x75.2.1 : Int)))) (fun k85 =>
            ldI .i64 w14 x84 fun x86 =>
            k85 x86 w14) 0 w14 fun x87 _ =>
          gd (α := Int) ((!(!(x65 == x66))) && (decide (v56 < (x75.2.1 : Int)))) (fun k88 =>
            cl Try.prog 54 [.int .i64 v51, .int .i64 v56] w14 fun e90 w15 => ∃ x89 : Int, e90 = Ending.returned (.int .i64 x89) ∧
            k88 x89 w15) 0 w14 fun x91 w16 =>
          (((!(!(x65 == x66))) && (decide (v56 < (x75.2.1 : Int)))) = true →
            ldI .i64 w16 x84 fun x92 =>
            ((.int .i64 x92 : Value) = .int .i64 x87)) ∧
          (((!(!(x65 == x66))) && (decide (v56 < (x75.2.1 : Int)))) = true →
            ldC w16 x78 fun x93 x93n x93c =>
            ((.slice x93 x93n x93c : Value) = .slice x81.1 x81.2.1 x81.2.2)) ∧
          pif (cond (!(x65 == x66)) true (cond (decide (v56 < (x75.2.1 : Int))) (!(x87 == x91)) false)) (
            R (.bool false) w16) (
            k57 ((IntKind.wrap .i64 (v56 + 1)), ()) w16)) (
          k52 ((IntKind.wrap .i64 (v51 + 1)), ()) w13)) (0, ()) w12) (
      W4 a0 a0n v24 v24n w12 R)) (0, ()) w5
theorem w3 {v24 : Option Addr} {d : Nat} {gs : List Sl} (h : Ls w (-1) p n c xs Mk o) (hg : Ls w (-2) v24 n d gs Mk o) (hn : n ≤ 1099511627776) (hs : ∀ (k : Nat) (x : Sl), xs[k]? = some x → x.2.1 ≤ 1099511627776)
    (hgs : ∀ (k : Nat) (x : Sl), gs[k]? = some x → x.2.1 ≤ 1099511627840)
    {R : Value → World → Prop} (hR : ∀ w', Keep None w w' → W4 p n v24 n w' R) : W3 p n v24 n w R := by
  unfold W3
  refine lp_of (fun s w1 => ∃ k : Nat, s.1 = k ∧ k ≤ n ∧ Keep None w w1) (fun s _ => (n - s.1).toNat) ⟨0, rfl, Nat.zero_le _, Keep.refl _ _⟩ ?_
  rintro ⟨k', ⟨⟩⟩ w1 ⟨k, rfl, hk, k1⟩
  simp only []
  refine pif_of (fun hlt => ?_) fun hge => hR w1 k1
  have hlt : k < n := by simpa using hlt
  rw [wrap_nat k (by omega)]
  obtain ⟨x, hx⟩ := getE (show k < xs.length by have := h.len; omega)
  obtain ⟨g, hgk⟩ := getE (show k < gs.length by have := hg.len; omega)
  have hsx := hs k x hx
  have hsg := hgs k g hgk
  refine lp_of (fun s w2 => ∃ i : Nat, s.1 = i ∧ i ≤ g.2.1 ∧ Keep None w w2) (fun s _ => (g.2.1 - s.1).toNat) ⟨0, rfl, Nat.zero_le _, k1⟩ ?_
  rintro ⟨i', ⟨⟩⟩ w2 ⟨i, rfl, hi, k2⟩
  simp only []
  have h2 := h.keep0 k2
  have hg2 := hg.keep0 k2
  refine hg2.rd hlt fun x' hx' => ?_
  rw [hgk] at hx'; injection hx' with hx'; subst hx'
  refine pif_of (fun hlt2 => ?_) fun hge2 => ⟨⟨k + 1, rfl, hlt, k2⟩, by omega⟩
  have hlt2 : i < g.2.1 := by simpa using hlt2
  have kd : Keep None w w2.drew := k2.drew
  have hd := h.keep0 kd
  have hgd := hg.keep0 kd
  refine hgd.at hlt fun x' b hx' hb hcell => ldC_of (x := x'.1) (n := x'.2.1) (c := x'.2.2) hcell ?_
  rw [hgk] at hx'; injection hx' with hx'; subst hx'
  have hOg := own_mk hgd hgk
  have hat := mks_at (k := k) hlt2
  refine own_rd2 hOg hlt2 hat fun a ha => ldI_of ha ?_
  refine cl_of ok54 (mark _ _ _) fun e w3 ⟨he, hw⟩ => ⟨_, he, ldI_of (by rw [hw]; exact ha) rfl, ldC_of (by rw [hw]; exact hcell) rfl, ?_⟩
  subst hw
  have eb : (!(!(mkW (k : Int) (i : Nat) == mkW k i))) = true := by simp
  refine gd_t eb (hd.at hlt fun x' b2 hx' hb2 hc2 => gd_t eb (ldC_of (x := x'.1) (n := x'.2.1) (c := x'.2.2) hc2 ?_))
  rw [hx] at hx'; injection hx' with hx'; subst hx'
  have hOx := own_mk hd hx
  rw [wrap_nat i (by omega)]
  have fin : ∀ w', Keep None w w' → (∃ j : Nat, ((i + 1 : Nat) : Int) = j ∧ j ≤ g.2.1 ∧ Keep None w w') ∧ ((g.2.1 : Int) - ((i + 1 : Nat) : Int)).toNat < ((g.2.1 : Int) - (i : Int)).toNat := fun w' k' => ⟨⟨i + 1, rfl, hlt2, k'⟩, by omega⟩
  by_cases hix : i < x.2.1
  · have ec : ((!(!(mkW (k : Int) (i : Nat) == mkW k i))) && (decide ((i : Int) < (x.2.1 : Int)))) = true := by simpa using hix
    have hatx := mks_at (k := k) hix
    refine gd_t ec (hd.at hlt fun x' b3 hx' hb3 hc3 => gd_t ec (ldC_of (x := x'.1) (n := x'.2.1) (c := x'.2.2) hc3 ?_))
    rw [hx] at hx'; injection hx' with hx'; subst hx'
    refine gd_t ec (own_rd2 hOx hix hatx fun a2 ha2 => gd_t ec (ldI_of ha2 (gd_t ec ?_)))
    refine cl_of ok54 (mark _ _ _) fun e w4 ⟨he, hw⟩ => ⟨_, he, (fun _ => ldI_of (by rw [hw]; exact ha2) rfl), (fun _ => ldC_of (by rw [hw]; exact hc3) rfl), ?_⟩
    subst hw
    exact pif_f (by simp) (fin _ kd)
  · have ec : ((!(!(mkW (k : Int) (i : Nat) == mkW k i))) && (decide ((i : Int) < (x.2.1 : Int)))) = false := by
      have : ¬ (i : Int) < (x.2.1 : Int) := by omega
      simp [this]
    refine gd_f ec (gd_f ec (gd_f ec (gd_f ec (gd_f ec ⟨fun hh => (by rw [ec] at hh; cases hh), fun hh => (by rw [ec] at hh; cases hh), ?_⟩))))
    have : ¬ (i : Int) < (x.2.1 : Int) := by omega
    exact pif_f (by simp [this]) (fin _ kd)

/-- each list, with more appended -/
def W2 (a0 : Option Addr) (a0n : Nat) (w1 : World) (R : Value → World → Prop) : Prop :=
  lp (σ := (Option Addr × Nat × Nat) × Int × Unit) (fun s27 w5 k26 => match s27 with
    | ((v24, v24n, v24c), v25, _) =>
    pif (decide (v25 < (a0n : Int))) (
      ixA a0 a0n v25 1 fun p30 =>
      ldC w5 p30 fun x31 x31n x31c =>
      lp (σ := (Option Addr × Nat × Nat) × Int × Unit) (fun s36 w6 k35 => match s36 with
        | ((v33, v33n, v33c), v34, _) =>
        pif (decide (v34 < 64)) (
          ixA a0 a0n v25 1 fun p39 =>
          ldC w6 p39 fun x40 x40n x40c =>
          cl Try.prog 54 [.int .i64 v25, .int .i64 (IntKind.wrap .i64 ((x40n : Int) + v34))] w6 fun e42 w7 => ∃ x41 : Int, e42 = Ending.returned (.int .i64 x41) ∧
          alc w7 [.int .i64 x41] 3 fun b43 w8 =>
          ∃ (x44 : Option Addr) (x44n x44c : Nat), ∃ w9 : World, (Builtin.append_ #[25, 25] 25 #[.slice v33 v33n v33c, .slice (some (⟨b43, 0, none⟩ : Addr)) 1 1]).run Try.prog w8 = .ok (.slice x44 x44n x44c) w9 ∧
          k35 ((x44, x44n, x44c), (IntKind.wrap .i64 (v34 + 1)), ()) w9) (
          alc w6 [.slice v33 v33n v33c] 25 fun b47 w10 =>
          ∃ (x48 : Option Addr) (x48n x48c : Nat), ∃ w11 : World, (Builtin.append_ #[43, 43] 43 #[.slice v24 v24n v24c, .slice (some (⟨b47, 0, none⟩ : Addr)) 1 1]).run Try.prog w10 = .ok (.slice x48 x48n x48c) w11 ∧
          k26 ((x48, x48n, x48c), (IntKind.wrap .i64 (v25 + 1)), ()) w11)) ((x31, x31n, x31c), 0, ()) w5) (
      W3 a0 a0n v24 v24n w5 R)) ((none, 0, 0), 0, ()) w1
theorem w2 {w0 : World} {o0 : Nat → Int} (h : Ls w (-1) p n c xs Mk o) (hn : n ≤ 1099511627776) (hs : ∀ (k : Nat) (x : Sl), xs[k]? = some x → x.2.1 ≤ 1099511627776)
    (hk0 : Keep (Lists o0) w0 w) (hag : Ag w0 o0 o)
    {R : Value → World → Prop} (hR : ∀ v24 d gs w' o', Ls w' (-1) p n c xs Mk o' → Ls w' (-2) v24 n d gs Mk o' → (∀ (k : Nat) (x : Sl), gs[k]? = some x → x.2.1 ≤ 1099511627840) → Keep (Lists o0) w0 w' → Ag w0 o0 o' → (∀ i, ob v24 i → w0.heap.size ≤ i) → W3 p n v24 n w' R) : W2 p n w R := by
  unfold W2
  refine lp_of (fun s w1 => ∃ (k : Nat) (gs : List Sl) (o : Nat → Int), s.2.1 = k ∧ k ≤ n ∧ s.1.2.1 = k ∧ Ls w1 (-1) p n c xs Mk o ∧ Ls w1 (-2) s.1.1 s.1.2.1 s.1.2.2 gs Mk o ∧ (∀ (k : Nat) (x : Sl), gs[k]? = some x → x.2.1 ≤ 1099511627840) ∧
      Ag w0 o0 o ∧ Keep (Lists o0) w0 w1 ∧ ∀ i, ob s.1.1 i → w0.heap.size ≤ i) (fun s _ => (n - s.2.1).toNat)
    ⟨0, [], o, rfl, Nat.zero_le _, rfl, h, ⟨Own.nil _ _ _, (fun k x hx => by simp at hx), (fun i ⟨a, h, _⟩ => by cases h), fun k x hx => by simp at hx⟩, (fun k x hx => by simp at hx), hag, hk0, fun i ⟨a, h, _⟩ => by cases h⟩ ?_
  rintro ⟨⟨q, m, d⟩, k', ⟨⟩⟩ w ⟨k, gs, o, rfl, hk, hmk, h, hg, hgs, hag, hk0, hqn⟩
  simp only [] at hmk h hg hgs hqn ⊢
  subst hmk
  have hz0 := hk0.size
  refine pif_of (fun hlt => ?_) fun hge => ?_
  · have hlt : m < n := by simpa using hlt
    rw [wrap_nat m (by omega)]
    have hgl := hg.len
    obtain ⟨x, hx⟩ := getE (show m < xs.length by have := h.len; omega)
    have hsx := hs m x hx
    refine h.rd hlt fun x' hx' => ?_
    rw [hx] at hx'; injection hx' with hx'; subst hx'
    refine lp_of (fun s w2 => ∃ (t : Nat) (o : Nat → Int), s.2.1 = t ∧ t ≤ 64 ∧ s.1.2.1 = x.2.1 + t ∧ Own w2 3 1 s.1.1 s.1.2.1 s.1.2.2 ((mks m s.1.2.1).map J) ∧ (∀ i, ob s.1.1 i → o i = m) ∧
        Ls w2 (-1) p n c xs Mk o ∧ Ls w2 (-2) q m d gs Mk o ∧ Ag w0 o0 o ∧ Keep (Lists o0) w0 w2) (fun s _ => (64 - s.2.1).toNat)
      ⟨0, o, rfl, Nat.zero_le _, rfl, own_mk h hx, h.oe m x hx, h, hg, hag, hk0⟩ ?_
    rintro ⟨⟨gp, gn, gc⟩, t', ⟨⟩⟩ w2 ⟨t, o, rfl, ht, hgn, hO, hgo, h, hg, hag, hk2⟩
    simp only [] at hgn hO hgo ⊢
    have hz2 := hk2.size
    refine pif_of (fun hlt2 => ?_) fun hge2 => ?_
    · have hlt2 : t < 64 := by simp at hlt2; omega
      rw [wrap_nat t (by omega)]
      refine h.rd hlt fun x' hx' => ?_
      rw [hx] at hx'; injection hx' with hx'; subst hx'
      refine cl_of ok54 (mark _ _ _) fun e w3 ⟨he, hw⟩ => ⟨_, he, ?_⟩
      subst hw
      have ew : IntKind.wrap .i64 ((x.2.1 : Int) + (t : Int)) = (gn : Int) := by rw [IntKind.wrap_i64]; omega
      rw [ew]
      refine app1 (g := (gp, gn, gc)) hO (by simp only []; omega) fun g' w4 e1 hO4 hd => ?_
      simp only [] at e1 hd
      rw [← mks_succ] at hO4
      have hOx := own_mk h hx
      rcases hd with ⟨e, e2, kk⟩ | ⟨e, kk⟩
      · have hS : ∀ i, ob gp i → o i = m := hgo
        refine ⟨⟨t + 1, o, rfl, hlt2, by omega, by rw [e1]; rw [e1] at hO4; exact hO4, fun i hi => hgo i (by rw [e] at hi; exact hi), ?_, ?_, hag, keep_lists hk2 hag kk hS⟩, by omega⟩
        · refine h.turn m x hx kk hS (by omega) (ys := mks m x.2.1) ?_ ?_ fun _ _ _ h => h
          · rw [e, e2] at hO4
            exact own_pre hOx hO hO4 (by omega) (by rw [← List.map_take, mks_take (by omega)]) kk
          · show mks _ _ = _; rw [mks_len]
        · exact hg.keep kk (fun i hi hs => by have := hg.ow i hi; have := hS i hs; omega) fun j z hz i hi hs => by
            have := hg.oe j z hz i hi
            have := hS i hs
            have := (List.getElem?_eq_some_iff.1 hz).1
            omega
      · refine ⟨⟨t + 1, fun i => if i < w3.heap.size then o i else m, rfl, hlt2, by omega, by rw [e1]; rw [e1] at hO4; exact hO4, fun i hi => if_neg (by have := e i hi; omega), (h.reown fun i hi => if_pos hi).keep0 kk, (hg.reown fun i hi => if_pos hi).keep0 kk,
          fun i hi => ?_, hk2.then0 kk⟩, by omega⟩
        show (if i < w3.heap.size then o i else (m : Int)) = _
        rw [if_pos (by omega)]; exact hag i hi
    · have hge2 : t = 64 := by simp at hge2; omega
      subst hge2
      refine app_sl (g := (gp, gn, gc)) hg.out (by omega) fun q' d' w4 hO4 kk hq' => ?_
      have hS : ∀ i, ob q i → o i = -2 := hg.ow
      let o4 : Nat → Int := fun i => if i < w2.heap.size then o i else -2
      have ho4 : ∀ i, i < w2.heap.size → o4 i = o i := fun i hi => if_pos hi
      refine ⟨⟨m + 1, gs ++ [(gp, gn, gc)], o4, rfl, hlt, rfl, ?_, ?_, ?_, fun i hi => ?_, ?_, ?_⟩, by omega⟩
      · exact (h.keep kk (fun i hi hs => by have := h.ow i hi; have := hS i hs; omega) fun j z hz i hi hs => by have := h.oe j z hz i hi; have := hS i hs; omega) |> fun hh =>
          ⟨hh.out, hh.each, fun i hi => by rw [ho4 i (h.out.lt i hi)]; exact hh.ow i hi, fun j z hz i hi => by
            obtain ⟨ys, hOz, _⟩ := h.each j z hz
            rw [ho4 i (hOz.lt i hi)]; exact hh.oe j z hz i hi⟩
      · have hO4' : Own w4 25 1 q' (m + 1) d' ((gs ++ [(gp, gn, gc)]).map sv) := hO4
        refine ⟨hO4', fun j z hz => ?_, fun i hi => ?_, fun j z hz i hi => ?_⟩
        · by_cases hj : j < m
          · rw [List.getElem?_append_left (by omega)] at hz
            obtain ⟨ys, hOz, hy⟩ := hg.each j z hz
            exact ⟨ys, hOz.keep kk fun i hi hs => by have := hg.oe j z hz i hi; have := hS i hs; omega, hy⟩
          · have hj2 := (List.getElem?_eq_some_iff.1 hz).1
            rw [List.length_append, List.length_singleton] at hj2
            obtain rfl : j = gs.length := by omega
            rw [List.getElem?_append_right (Nat.le_refl _), Nat.sub_self, List.getElem?_cons_zero] at hz
            injection hz with hz
            subst hz
            rw [hgl]
            exact ⟨_, hO.keep kk fun i hi hs => by have := hgo i hi; have := hS i hs; omega, by show mks _ _ = _; rw [mks_len]⟩
        · rcases hq' i hi with h1 | h1
          · rw [ho4 i (hg.out.lt i h1)]; exact hS i h1
          · exact if_neg (by omega)
        · by_cases hj : j < m
          · rw [List.getElem?_append_left (by omega)] at hz
            obtain ⟨ys, hOz, hy⟩ := hg.each j z hz
            rw [ho4 i (hOz.lt i hi)]
            exact hg.oe j z hz i hi
          · have hj2 := (List.getElem?_eq_some_iff.1 hz).1
            rw [List.length_append, List.length_singleton] at hj2
            obtain rfl : j = gs.length := by omega
            rw [List.getElem?_append_right (Nat.le_refl _), Nat.sub_self, List.getElem?_cons_zero] at hz
            injection hz with hz
            subst hz
            rw [ho4 i (hO.lt i hi), hgl]
            exact hgo i hi
      · intro j z hz
        by_cases hj : j < m
        · rw [List.getElem?_append_left (by omega)] at hz
          exact hgs j z hz
        · have hj2 := (List.getElem?_eq_some_iff.1 hz).1
          rw [List.length_append, List.length_singleton] at hj2
          obtain rfl : j = gs.length := by omega
          rw [List.getElem?_append_right (Nat.le_refl _), Nat.sub_self, List.getElem?_cons_zero] at hz
          injection hz with hz
          subst hz
          simp only []; omega
      · rw [ho4 i (by omega)]; exact hag i hi
      · exact hk2.trans kk fun i hi hs => by have := hqn i hs; omega
      · intro i hi
        rcases hq' i hi with h1 | h1
        · exact hqn i h1
        · omega
  · have hge : m = n := by simp at hge; omega
    subst hge
    exact hR q d gs w o h hg hgs hk0 hag hqn

theorem apart (h : Ls w (-1) p n c xs (fun _ _ => True) o) (hn : n ≤ 1099511627776) (hs : ∀ (k : Nat) (x : Sl), xs[k]? = some x → x.2.1 ≤ 1099511627776) :
    Calls Try.prog 32 #[.slice p n c] w fun e w' => e = .returned (.bool true) ∧ Keep (Lists o) w w' := by
  refine (V32_calls p n c w (Done o w) ?_).mono fun e w' ⟨v, he, hv, hk⟩ => ⟨by rw [he, hv], hk⟩
  unfold V32
  refine lp_of (fun s w1 => ∃ k : Nat, s.1 = k ∧ k ≤ n ∧ Ls w1 (-1) p n c xs (fun j ys => j < k → Mk j ys) o ∧ Keep (Lists o) w w1) (fun s _ => (n - s.1).toNat)
    ⟨0, rfl, Nat.zero_le _, h.mono fun _ _ _ _ _ _ hh => by omega, Keep.refl _ _⟩ ?_
  rintro ⟨k', ⟨⟩⟩ w1 ⟨k, rfl, hk, h1, k1⟩
  simp only []
  refine pif_of (fun hlt => ?_) fun hge => ?_
  · have hlt : k < n := by simpa using hlt
    rw [wrap_nat k (by omega)]
    obtain ⟨x, hx⟩ := getE (show k < xs.length by have := h.len; omega)
    have hsx := hs k x hx
    refine lp_of (fun s w2 => ∃ i : Nat, s.1 = i ∧ i ≤ x.2.1 ∧ Ls w2 (-1) p n c xs (fun j ys => (j < k → Mk j ys) ∧ (j = k → ys.take i = mks k i)) o ∧ Keep (Lists o) w w2) (fun s _ => (x.2.1 - s.1).toNat)
      ⟨0, rfl, Nat.zero_le _, h1.mono fun _ _ _ _ _ hy => ⟨hy, fun _ => rfl⟩, k1⟩ ?_
    rintro ⟨i', ⟨⟩⟩ w2 ⟨i, rfl, hi, h2, k2⟩
    simp only []
    refine h2.rd hlt fun x' hx' => ?_
    rw [hx] at hx'; injection hx' with hx'; subst hx'
    refine pif_of (fun hlt2 => ?_) fun hge2 => ?_
    · have hlt2 : i < x.2.1 := by simpa using hlt2
      have kd : Keep None w2 w2.drew := (Keep.refl _ _).drew
      have hd := h2.keep0 kd
      rw [wrap_nat i (by omega)]
      refine hd.at hlt fun x' b hx' hb hcell => ldC_of (x := x'.1) (n := x'.2.1) (c := x'.2.2) hcell ?_
      rw [hx] at hx'; injection hx' with hx'; subst hx'
      refine cl_of ok54 (mark _ _ _) fun e w3 ⟨he, hw⟩ => ⟨_, he, ldC_of (by rw [hw]; exact hcell) rfl, ?_⟩
      subst hw
      obtain ⟨ys, hO, hy1, hy2⟩ := hd.each k x hx
      have hyl := own_len hO
      refine own_wr hO hlt2 fun w4 hO4 k4 => ?_
      have hS := hd.oe k x hx
      refine ⟨⟨i + 1, rfl, hlt2, hd.turn k x hx k4 hS (by omega) hO4 ⟨fun hh => by omega, fun _ => ?_⟩ fun j zs hj hz => ⟨hz.1, fun e => absurd e hj⟩, keep_lists (k2.then0 kd) (fun _ _ => rfl) k4 hS⟩, by omega⟩
      rw [mks_succ, ← hy2 rfl, List.take_add_one, List.take_set_of_le (Nat.le_refl _), List.getElem?_set_self (by omega)]
      rfl
    · have hge2 : i = x.2.1 := by simp at hge2; omega
      subst hge2
      obtain ⟨ys, hO, hy1, hy2⟩ := h2.each k x hx
      refine ⟨⟨k + 1, rfl, hlt, h2.mono fun j z zs hz hzl hh hj => ?_, k2⟩, by omega⟩
      by_cases hjk : j = k
      · subst hjk
        rw [hx] at hz; injection hz with hz; subst hz
        have := hh.2 rfl
        rw [List.take_of_length_le (by omega)] at this
        show zs = _
        rw [hzl]; exact this
      · exact hh.1 (by omega)
  · have hge : k = n := by simp at hge; omega
    subst hge
    have hM : Ls w1 (-1) p k c xs Mk o := h1.mono fun j z zs hz _ hh => hh (by have := (List.getElem?_eq_some_iff.1 hz).1; have := h1.len; omega)
    refine w2 (R := Done o w) hM hn hs k1 (fun _ _ => rfl) fun v24 d gs wa oa hA hG hgs ka aga hqn => ?_
    refine w3 hA hG hn hs hgs fun wb kb => ?_
    exact w4 (hA.keep0 kb) ⟨(hG.keep0 kb).out, hG.ow, fun j g z hj => by omega⟩ hn hs (ka.then0 kb) aga hqn fun w' k' => ⟨rfl, k'⟩
end
end Go.Proofs.Ytlbpllpomdjooaa.Apart
