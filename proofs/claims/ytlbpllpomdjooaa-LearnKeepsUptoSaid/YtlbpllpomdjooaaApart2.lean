/- ApartInts: the walk. -/
import Derived.Test.YtlbpllpomdjooaaApart
set_option linter.unusedVariables false
set_option linter.unusedSimpArgs false
set_option maxRecDepth 100000
namespace Go.Proofs.Ytlbpllpomdjooaa.Apart
open Go Go.Proofs.Ytlbpllpomdjooaa.Vc Go.Proofs.Ytlbpllpomdjooaa.T

/-- marked lists -/
def Mk : Nat → List Int → Prop := fun j ys => ys = mks j ys.length
def Ag (w : World) (o o' : Nat → Int) : Prop := ∀ i, i < w.heap.size → o' i = o i
theorem own_len {w : World} {e : TypeId} {p : Option Addr} {n c : Nat} {ys : List Int} (h : Own w e 1 p n c (ys.map J)) : ys.length = n := by
  have := h.len; simpa using this
theorem own_mk {w : World} {tag : Int} {p : Option Addr} {n c : Nat} {xs : List Sl} {o : Nat → Int} (h : Ls w tag p n c xs Mk o) {k : Nat} {x : Sl} (hx : xs[k]? = some x) : Own w 3 1 x.1 x.2.1 x.2.2 ((mks k x.2.1).map J) := by
  obtain ⟨ys, hO, hy⟩ := h.each k x hx
  have hl := own_len hO
  rw [hy, hl] at hO
  exact hO
/-- the lists' list, some of whose lists are told of -/
structure Half (w : World) (q : Option Addr) (m d : Nat) (gs xs : List Sl) (k : Nat) (o : Nat → Int) : Prop where
  out : Own w 25 1 q m d (gs.map sv)
  ow : ∀ i, ob q i → o i = -2
  each : ∀ (j : Nat) (g x : Sl), j < k → gs[j]? = some g → xs[j]? = some x → (∃ zs : List Int, Own w 3 1 g.1 g.2.1 g.2.2 (zs.map J) ∧ x.2.1 ≤ g.2.1 ∧ zs.take x.2.1 = mks j x.2.1) ∧ ∀ i, ob g.1 i → o i = j
theorem Half.keep {w w' : World} {q : Option Addr} {m d : Nat} {gs xs : List Sl} {k : Nat} {o : Nat → Int} {S : Nat → Prop} (h : Half w q m d gs xs k o) (hk : Keep S w w') (hS : ∀ i, S i → o i = k) : Half w' q m d gs xs k o :=
  ⟨h.out.keep hk fun i hi hs => by have := h.ow i hi; have := hS i hs; omega, h.ow, fun j g x hj hg hx => by
    obtain ⟨⟨zs, hO, h1, h2⟩, h3⟩ := h.each j g x hj hg hx
    exact ⟨⟨zs, hO.keep hk fun i hi hs => by have := h3 i hi; have := hS i hs; omega, h1, h2⟩, h3⟩⟩
theorem Half.reown {w : World} {q : Option Addr} {m d : Nat} {gs xs : List Sl} {k : Nat} {o o' : Nat → Int} (h : Half w q m d gs xs k o) (ho : Ag w o o') : Half w q m d gs xs k o' :=
  ⟨h.out, fun i hi => by rw [ho i (h.out.lt i hi)]; exact h.ow i hi, fun j g x hj hg hx => by
    obtain ⟨⟨zs, hO, h1, h2⟩, h3⟩ := h.each j g x hj hg hx
    exact ⟨⟨zs, hO, h1, h2⟩, fun i hi => by rw [ho i (hO.lt i hi)]; exact h3 i hi⟩⟩
theorem Half.keep0 {w w' : World} {q : Option Addr} {m d : Nat} {gs xs : List Sl} {k : Nat} {o : Nat → Int} (h : Half w q m d gs xs k o) (hk : Keep None w w') : Half w' q m d gs xs k o := h.keep hk fun i hi => hi.elim

def Done (o : Nat → Int) (w : World) (v : Value) (w' : World) : Prop := v = .bool true ∧ Keep (Lists o) w w'
theorem wrap_nat (i : Nat) (h : i < 4611686018427387904) : IntKind.wrap .i64 ((i : Int) + 1) = ((i + 1 : Nat) : Int) := by rw [IntKind.wrap_i64]; omega

section
variable {w : World} {p : Option Addr} {n c : Nat} {xs : List Sl} {Y : Nat → List Int → Prop} {o : Nat → Int}
/-- the end: all is as marked -/
def W5 (a0 : Option Addr) (a0n : Nat) (v24 : Option Addr) (v24n : Nat) (w17 : World) (R : Value → World → Prop) : Prop :=
  lp (σ := Int × Unit) (fun s124 w24 k123 => match s124 with
    | (v122, _) =>
    pif (decide (v122 < (a0n : Int))) (
      lp (σ := Int × Unit) (fun s129 w25 k128 => match s129 with
        | (v127, _) =>
        ixA a0 a0n v122 1 fun p131 =>
        ldC w25 p131 fun x132 x132n x132c =>
        pif (decide (v127 < (x132n : Int))) (
          ixA a0 a0n v122 1 fun p133 =>
          ldC (World.drew w25) p133 fun x134 x134n x134c =>
          ixA x134 x134n v127 1 fun p135 =>
          ldI .i64 (World.drew w25) p135 fun x136 =>
          cl Try.prog 54 [.int .i64 v122, .int .i64 v127] (World.drew w25) fun e138 w26 => ∃ x137 : Int, e138 = Ending.returned (.int .i64 x137) ∧
          (
            ldI .i64 w26 p135 fun x139 =>
            ((.int .i64 x139 : Value) = .int .i64 x136)) ∧
          (
            ldC w26 p133 fun x140 x140n x140c =>
            ((.slice x140 x140n x140c : Value) = .slice x134 x134n x134c)) ∧
          gd (α := Addr) (!(!(x136 == x137))) (fun k141 =>
            ixA v24 v24n v122 1 fun p142 =>
            k141 p142 w26) ⟨0, 0, none⟩ w26 fun x143 _ =>
          gd (α := (Option Addr × Nat × Nat)) (!(!(x136 == x137))) (fun k144 =>
            ldC w26 x143 fun x145 x145n x145c =>
            k144 (x145, x145n, x145c) w26) (none, 0, 0) w26 fun x146 _ =>
          gd (α := Addr) (!(!(x136 == x137))) (fun k147 =>
            ixA x146.1 x146.2.1 v127 1 fun p148 =>
            k147 p148 w26) ⟨0, 0, none⟩ w26 fun x149 _ =>
          gd (α := Int) (!(!(x136 == x137))) (fun k150 =>
            ldI .i64 w26 x149 fun x151 =>
            k150 x151 w26) 0 w26 fun x152 _ =>
          gd (α := Int) (!(!(x136 == x137))) (fun k153 =>
            cl Try.prog 54 [.int .i64 v122, .int .i64 v127] w26 fun e155 w27 => ∃ x154 : Int, e155 = Ending.returned (.int .i64 x154) ∧
            k153 x154 w27) 0 w26 fun x156 w28 =>
          ((!(!(x136 == x137))) = true →
            ldI .i64 w28 x149 fun x157 =>
            ((.int .i64 x157 : Value) = .int .i64 x152)) ∧
          ((!(!(x136 == x137))) = true →
            ldC w28 x143 fun x158 x158n x158c =>
            ((.slice x158 x158n x158c : Value) = .slice x146.1 x146.2.1 x146.2.2)) ∧
          pif (cond (!(x136 == x137)) true (!(x152 == x156))) (
            R (.bool false) w28) (
            k128 ((IntKind.wrap .i64 (v127 + 1)), ()) w28)) (
          k123 ((IntKind.wrap .i64 (v122 + 1)), ()) w25)) (0, ()) w24) (
      R (.bool true) w24)) (0, ()) w17
theorem w5 {v24 : Option Addr} {d : Nat} {gs : List Sl} (h : Ls w (-1) p n c xs Mk o) (hg : Half w v24 n d gs xs n o) (hn : n ≤ 1099511627776) (hs : ∀ (k : Nat) (x : Sl), xs[k]? = some x → x.2.1 ≤ 1099511627776)
    {R : Value → World → Prop} (hR : ∀ w', Keep None w w' → R (.bool true) w') : W5 p n v24 n w R := by
  unfold W5
  refine lp_of (fun s w1 => ∃ k : Nat, s.1 = k ∧ k ≤ n ∧ Keep None w w1) (fun s _ => (n - s.1).toNat) ⟨0, rfl, Nat.zero_le _, Keep.refl _ _⟩ ?_
  rintro ⟨k', ⟨⟩⟩ w1 ⟨k, rfl, hk, k1⟩
  simp only []
  refine pif_of (fun hlt => ?_) fun hge => ?_
  · have hlt : k < n := by simpa using hlt
    rw [wrap_nat k (by omega)]
    obtain ⟨x, hx⟩ := getE (show k < xs.length by have := h.len; omega)
    obtain ⟨g, hgk⟩ := getE (show k < gs.length by have := hg.out.len; simp at this; omega)
    have hsx := hs k x hx
    refine lp_of (fun s w2 => ∃ i : Nat, s.1 = i ∧ i ≤ x.2.1 ∧ Keep None w w2) (fun s _ => (x.2.1 - s.1).toNat) ⟨0, rfl, Nat.zero_le _, k1⟩ ?_
    rintro ⟨i', ⟨⟩⟩ w2 ⟨i, rfl, hi, k2⟩
    simp only []
    have h2 := h.keep0 k2
    refine h2.rd hlt fun x' hx' => ?_
    rw [hx] at hx'; injection hx' with hx'; subst hx'
    refine pif_of (fun hlt2 => ?_) fun hge2 => ⟨⟨k + 1, rfl, hlt, k2⟩, by omega⟩
    have hlt2 : i < x.2.1 := by simpa using hlt2
    have kd : Keep None w w2.drew := k2.drew
    have hd := h.keep0 kd
    have hgd := hg.keep0 kd
    refine hd.at hlt fun x' b hx' hb hcell => ldC_of (x := x'.1) (n := x'.2.1) (c := x'.2.2) hcell ?_
    rw [hx] at hx'; injection hx' with hx'; subst hx'
    have hOx := own_mk hd hx
    have hat := mks_at (k := k) hlt2
    refine own_rd2 hOx hlt2 hat fun a ha => ldI_of ha ?_
    refine cl_of ok54 (mark _ _ _) fun e w3 ⟨he, hw⟩ => ⟨_, he, ldI_of (by rw [hw]; exact ha) rfl, ldC_of (by rw [hw]; exact hcell) rfl, ?_⟩
    subst hw
    have eb : (!(!(mkW (k : Int) (i : Nat) == mkW k i))) = true := by simp
    obtain ⟨⟨zs, hOg, hle, htk⟩, hog⟩ := hgd.each k g x hlt hgk hx
    have hzi : zs[i]? = some (mkW k i) := by
      rw [← htk, List.getElem?_take, if_pos hlt2] at hat
      exact hat
    refine gd_t eb (hgd.out.ix (by omega) (by omega) fun b2 hb2 => gd_t eb ?_)
    have hcg : w2.drew.cell? ⟨b2, ((k : Nat) : Int).toNat * 1, none⟩ = some (sv g) := by
      have := hgd.out
      rw [hb2] at this
      rw [this.cell _ (by omega), Nat.mul_one, Int.toNat_natCast, List.getElem?_map, hgk]; rfl
    refine ldC_of (x := g.1) (n := g.2.1) (c := g.2.2) hcg (gd_t eb (own_rd2 (x := g) hOg (by omega) hzi fun a2 ha2 => gd_t eb (ldI_of ha2 (gd_t eb ?_))))
    refine cl_of ok54 (mark _ _ _) fun e w4 ⟨he, hw⟩ => ⟨_, he, (fun _ => ldI_of (by rw [hw]; exact ha2) rfl), (fun _ => ldC_of (by rw [hw]; exact hcg) rfl), ?_⟩
    subst hw
    rw [wrap_nat i (by omega)]
    exact pif_f (by simp) ⟨⟨i + 1, rfl, hlt2, kd⟩, by omega⟩
  · exact hR w1 k1

/-- more is laid behind each list -/
def W4 (a0 : Option Addr) (a0n : Nat) (v24 : Option Addr) (v24n : Nat) (w12 : World) (R : Value → World → Prop) : Prop :=
  lp (σ := Int × Unit) (fun s100 w17 k99 => match s100 with
    | (v98, _) =>
    pif (decide (v98 < (a0n : Int))) (
      lp (σ := (Option Addr × Nat × Nat) × Int × Unit) (fun s107 w18 k106 => match s107 with
        | ((v104, v104n, v104c), v105, _) =>
        pif (decide (v105 < 64)) (
          cl Try.prog 54 [.int .i64 (IntKind.wrap .i64 (v98 + (a0n : Int))), .int .i64 v105] w18 fun e111 w19 => ∃ x110 : Int, e111 = Ending.returned (.int .i64 x110) ∧
          alc w19 [.int .i64 x110] 3 fun b112 w20 =>
          ∃ (x113 : Option Addr) (x113n x113c : Nat), ∃ w21 : World, (Builtin.append_ #[25, 25] 25 #[.slice v104 v104n v104c, .slice (some (⟨b112, 0, none⟩ : Addr)) 1 1]).run Try.prog w20 = .ok (.slice x113 x113n x113c) w21 ∧
          k106 ((x113, x113n, x113c), (IntKind.wrap .i64 (v105 + 1)), ()) w21) (
          ixA a0 a0n v98 1 fun p116 =>
          ldC w18 p116 fun x117 x117n x117c =>
          ∃ (x118 : Option Addr) (x118n x118c : Nat), ∃ w22 : World, (Builtin.append_ #[25, 25] 25 #[.slice x117 x117n x117c, .slice v104 v104n v104c]).run Try.prog w18 = .ok (.slice x118 x118n x118c) w22 ∧
          ixA v24 v24n v98 1 fun p119 =>
          st w22 (p119.add 0) (.slice x118 x118n x118c) fun w23 =>
          k99 ((IntKind.wrap .i64 (v98 + 1)), ()) w23)) ((none, 0, 0), 0, ()) w17) (W5 a0 a0n v24 v24n w17 R)) (0, ()) w12
theorem keep_ag {w0 w1 w2 : World} {o o' : Nat → Int} {S : Nat → Prop} {k : Nat} (h : Keep (Lists o) w0 w1) (ho : Ag w0 o o') (hk : Keep S w1 w2) (hS : ∀ i, S i → o' i = k) : Keep (Lists o) w0 w2 := keep_lists h ho hk hS
theorem w4 {v24 : Option Addr} {d : Nat} {gs : List Sl} {w0 : World} {o0 : Nat → Int} (h : Ls w (-1) p n c xs Mk o) (hg : Half w v24 n d gs xs 0 o) (hn : n ≤ 1099511627776) (hs : ∀ (k : Nat) (x : Sl), xs[k]? = some x → x.2.1 ≤ 1099511627776)
    (hk0 : Keep (Lists o0) w0 w) (hag : Ag w0 o0 o) (hqn : ∀ i, ob v24 i → w0.heap.size ≤ i)
    {R : Value → World → Prop} (hR : ∀ w', Keep (Lists o0) w0 w' → R (.bool true) w') : W4 p n v24 n w R := by
  unfold W4
  refine lp_of (fun s w1 => ∃ (k : Nat) (gs : List Sl) (o : Nat → Int), s.1 = k ∧ k ≤ n ∧ Ls w1 (-1) p n c xs Mk o ∧ Half w1 v24 n d gs xs k o ∧ Ag w0 o0 o ∧ Keep (Lists o0) w0 w1) (fun s _ => (n - s.1).toNat)
    ⟨0, gs, o, rfl, Nat.zero_le _, h, hg, hag, hk0⟩ ?_
  rintro ⟨k', ⟨⟩⟩ w ⟨k, gs, o, rfl, hk, h, hg, hag, hk0⟩
  simp only []
  have hz0 := hk0.size
  refine pif_of (fun hlt => ?_) fun hge => ?_
  · have hlt : k < n := by simpa using hlt
    rw [wrap_nat k (by omega)]
    have hgl : gs.length = n := by have := hg.out.len; simpa using this
    obtain ⟨x, hx⟩ := getE (show k < xs.length by have := h.len; omega)
    have hsx := hs k x hx
    refine lp_of (fun s w2 => ∃ t : Nat, s.2.1 = t ∧ t ≤ 64 ∧ s.1.2.1 = t ∧ Own w2 3 1 s.1.1 s.1.2.1 s.1.2.2 ((mks (IntKind.wrap .i64 ((k : Int) + n)) t).map J) ∧ (∀ i, ob s.1.1 i → w.heap.size ≤ i) ∧ Keep None w w2) (fun s _ => (64 - s.2.1).toNat)
      ⟨0, rfl, Nat.zero_le _, rfl, by simpa [mks] using Own.nil w 3 1, (fun i ⟨a, h, _⟩ => by cases h), Keep.refl _ _⟩ ?_
    rintro ⟨⟨mp, mn, mc⟩, t', ⟨⟩⟩ w2 ⟨t, rfl, ht, hmt, hO, hf, k2⟩
    simp only [] at hmt hO hf ⊢
    subst hmt
    refine pif_of (fun hlt2 => ?_) fun hge2 => ?_
    · have hlt2 : mn < 64 := by simp at hlt2; omega
      refine cl_of ok54 (mark _ _ _) fun e w3 ⟨he, hw⟩ => ⟨_, he, ?_⟩
      subst hw
      rw [wrap_nat mn (by omega)]
      refine app1 (g := (mp, mn, mc)) hO (by simp only []; omega) fun g' w4 e1 hO4 hd => ?_
      simp only [] at e1 hd
      refine ⟨⟨mn + 1, rfl, hlt2, e1, ?_, fun i hi => ?_, ?_⟩, by omega⟩
      · rw [mks_succ]; exact hO4
      · rcases hd with ⟨e, _, _⟩ | ⟨e, _⟩
        · rw [e] at hi; exact hf i hi
        · have := e i hi; have := k2.size; omega
      · rcases hd with ⟨_, _, k⟩ | ⟨_, k⟩
        · exact k2.trans k fun i hi hh => by have := hf i hh; omega
        · exact k2.then0 k
    · have hge2 : mn = 64 := by simp at hge2; omega
      subst hge2
      have h2 := h.keep0 k2
      have hg2 := hg.keep0 k2
      refine h2.rd hlt fun x' hx' => ?_
      rw [hx] at hx'; injection hx' with hx'; subst hx'
      have hOx := own_mk h2 hx
      refine app_of2 (e := 3) (sz := 1) (z := J 0) (B := 8) Try.underlying25 (by kernel_rfl) rfl (by omega) hOx hO.news (fun u hu => ?_) (by simp only [maxLen]; omega) (by omega) fun p' c' w3 hO3 hd => ?_
      · obtain ⟨y, _, rfl⟩ := List.mem_map.1 hu; rfl
      rw [← List.map_append] at hO3
      -- the lists, behind it
      have key : ∃ o' : Nat → Int, Ag w2 o o' ∧ (∀ i, ob p' i → o' i = k) ∧ Ls w3 (-1) p n c xs Mk o' ∧ Half w3 v24 n d gs xs k o' ∧ Keep (Lists o0) w0 w3 ∧ w2.heap.size ≤ w3.heap.size := by
        have k02 := hk0.then0 k2
        rcases hd with ⟨e1, e2, _, kk⟩ | ⟨e1, kk⟩
        · subst e1 e2
          have hS := h2.oe _ x hx
          refine ⟨o, fun _ _ => rfl, hS, h2.turn k x hx kk hS (by omega) (ys := mks k x.2.1) ?_ ?_ fun _ _ _ h => h, hg2.keep kk hS, keep_ag k02 hag kk hS, kk.size⟩
          · exact own_pre hOx hOx hO3 (by omega) (by rw [← List.map_take, List.take_left' (mks_len _ _)]) kk
          · show mks _ _ = _; rw [mks_len]
        · refine ⟨fun i => if i < w2.heap.size then o i else k, fun i hi => if_pos hi, fun i hi => if_neg (by have := e1 i hi; omega), ?_, ?_, k02.then0 kk, kk.size⟩
          · exact (h2.reown fun i hi => if_pos hi).keep0 kk
          · exact (hg2.reown fun i hi => if_pos hi).keep0 kk
      obtain ⟨o', ha', hp', h3, hg3, k03, z3⟩ := key
      have z2 := k2.size
      have ag' : Ag w0 o0 o' := fun i hi => by rw [ha' i (by omega)]; exact hag i hi
      refine hg3.out.ix (by omega) (by omega) fun b hb => ?_
      simp only [add_mk, Nat.add_zero, Nat.mul_one, Int.toNat_natCast]
      have hq := hg3.out
      rw [hb] at hq
      refine hq.st (by omega) rfl fun w4 hO4 k4 _ => ?_
      have hS4 : ∀ i, One b i → o' i = -2 := fun i hi => hg3.ow i ⟨_, hb, hi.symm⟩
      refine ⟨⟨k + 1, gs.set k (p', x.2.1 + 64, c'), o', rfl, hlt, ?_, ?_, ag', ?_⟩, by omega⟩
      · exact h3.keep k4 (fun i hi hs => by have := h3.ow i hi; have := hS4 i hs; omega) fun j z hz i hi hs => by have := h3.oe j z hz i hi; have := hS4 i hs; omega
      · refine ⟨by rw [List.map_set, hb]; exact hO4, hg3.ow, fun j g z hj hgj hz => ?_⟩
        by_cases hjk : j = k
        · subst hjk
          rw [hx] at hz; injection hz with hz; subst hz
          rw [List.getElem?_set_self (by omega)] at hgj
          injection hgj with hgj
          subst hgj
          exact ⟨⟨_, hO3.keep k4 fun i hi hs => by have := hp' i hi; have := hS4 i hs; omega, by simp only []; omega, List.take_left' (mks_len _ _)⟩, hp'⟩
        · rw [List.getElem?_set_ne (Ne.symm hjk)] at hgj
          obtain ⟨⟨zs, hOz, q1, q2⟩, q3⟩ := hg3.each j g z (by omega) hgj hz
          exact ⟨⟨zs, hOz.keep k4 fun i hi hs => by have := q3 i hi; have := hS4 i hs; omega, q1, q2⟩, q3⟩
      · refine k03.trans k4 fun i hi hs => ?_
        have := hqn i ⟨_, hb, hs.symm⟩
        omega
  · have hge : k = n := by simp at hge; omega
    subst hge
    exact w5 h hg hn hs fun w' k => hR w' (hk0.then0 k)
end
end Go.Proofs.Ytlbpllpomdjooaa.Apart
