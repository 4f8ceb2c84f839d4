/- slices.SortFunc over ints: the list in memory, swaps, compares; insertion sort; reversal. -/
import Derived.Test.YtjpblaenebodlaaVcA
import Derived.Test.YtjpblaenebodlaaTSort
set_option linter.unusedVariables false
set_option linter.unusedSimpArgs false
set_option maxRecDepth 100000
namespace Go.Proofs.Ytjpblaenebodlaa.Sort
open Go Go.Proofs.Ytjpblaenebodlaa.Vc Go.Proofs.Ytjpblaenebodlaa.T

abbrev J (n : Int) : Value := .int .i64 n
def g (z : List Int) (k : Nat) : Int := z.getD k 0
def swp (z : List Int) (i j : Nat) : List Int := (z.set j (g z i)).set i (g z j)
theorem swp_len (z : List Int) (i j : Nat) : (swp z i j).length = z.length := by simp [swp]
theorem g_some {z : List Int} {k : Nat} (h : k < z.length) : z[k]? = some (g z k) := by
  unfold g; rw [List.getD_eq_getElem?_getD, List.getElem?_eq_getElem h]; rfl
theorem g_set {z : List Int} {i k : Nat} {x : Int} (hi : i < z.length) : g (z.set i x) k = if k = i then x else g z k := by
  unfold g
  rw [List.getD_eq_getElem?_getD, List.getElem?_set, List.getD_eq_getElem?_getD]
  by_cases h : k = i
  · subst h; simp [hi]
  · rw [if_neg (Ne.symm h), if_neg h]
theorem g_swp {z : List Int} {i j k : Nat} (hi : i < z.length) (hj : j < z.length) : g (swp z i j) k = if k = i then g z j else if k = j then g z i else g z k := by
  unfold swp
  rw [g_set (by simpa using hi), g_set hj]
theorem g_mem {z : List Int} {k : Nat} (h : k < z.length) : g z k ∈ z := List.mem_of_getElem? (g_some h)
theorem swp_perm {z : List Int} {i j : Nat} (hi : i < z.length) (hj : j < z.length) : (swp z i j).Perm z := by
  have e1 : g z i = z[i] := by unfold g; rw [List.getD_eq_getElem?_getD, List.getElem?_eq_getElem hi]; rfl
  have e2 : g z j = z[j] := by unfold g; rw [List.getD_eq_getElem?_getD, List.getElem?_eq_getElem hj]; rfl
  unfold swp
  rw [e1, e2]
  exact List.set_set_perm hj hi

/-- the same but for the order within a range -/
structure SP (a b : Nat) (z z' : List Int) : Prop where
  len : z'.length = z.length
  perm : z'.Perm z
  out : ∀ k, k < a ∨ b ≤ k → g z' k = g z k
theorem SP.refl (a b : Nat) (z : List Int) : SP a b z z := ⟨rfl, List.Perm.refl _, fun _ _ => rfl⟩
theorem SP.trans {a b : Nat} {z z1 z2 : List Int} (h : SP a b z z1) (h' : SP a b z1 z2) : SP a b z z2 :=
  ⟨h'.len.trans h.len, h'.perm.trans h.perm, fun k hk => (h'.out k hk).trans (h.out k hk)⟩
theorem SP.mono {a b a' b' : Nat} {z z1 : List Int} (h : SP a b z z1) (ha : a' ≤ a) (hb : b ≤ b') : SP a' b' z z1 :=
  ⟨h.len, h.perm, fun k hk => h.out k (by omega)⟩
theorem SP.swap {a b i j : Nat} {z : List Int} (hb : b ≤ z.length) (hi : a ≤ i ∧ i < b) (hj : a ≤ j ∧ j < b) : SP a b z (swp z i j) :=
  ⟨swp_len _ _ _, swp_perm (by omega) (by omega), fun k hk => by
    rw [g_swp (by omega) (by omega), if_neg (by omega), if_neg (by omega)]⟩
theorem ext_g {x y : List Int} (hl : x.length = y.length) (h : ∀ k, k < x.length → g x k = g y k) : x = y := by
  apply List.ext_getElem hl
  intro k h1 h2
  have := h k h1
  unfold g at this
  rw [List.getD_eq_getElem?_getD, List.getD_eq_getElem?_getD, List.getElem?_eq_getElem h1, List.getElem?_eq_getElem h2] at this
  exact this
theorem SP.all {a b : Nat} {z z' : List Int} (h : SP a b z z') (hb : b ≤ z.length) {P : Int → Prop} (hP : ∀ k, a ≤ k → k < b → P (g z k)) : ∀ k, a ≤ k → k < b → P (g z' k) := by
  intro k hk1 hk2
  have hl := h.len
  have e1 : z'.take a = z.take a := ext_g (by simp; omega) fun i hi => by
    have hi' : i < a := by simp at hi; omega
    have := h.out i (Or.inl hi')
    unfold g at this ⊢
    rw [List.getD_eq_getElem?_getD, List.getD_eq_getElem?_getD, List.getElem?_take, List.getElem?_take, if_pos hi', if_pos hi', ← List.getD_eq_getElem?_getD, ← List.getD_eq_getElem?_getD]
    exact this
  have e2 : z'.drop b = z.drop b := ext_g (by simp; omega) fun i hi => by
    have := h.out (b + i) (Or.inr (by omega))
    unfold g at this ⊢
    rw [List.getD_eq_getElem?_getD, List.getD_eq_getElem?_getD, List.getElem?_drop, List.getElem?_drop, ← List.getD_eq_getElem?_getD, ← List.getD_eq_getElem?_getD]
    exact this
  have part : ∀ x : List Int, x = x.take a ++ ((x.drop a).take (b - a) ++ x.drop b) := fun x => by
    have h1 : x.drop b = (x.drop a).drop (b - a) := by rw [List.drop_drop]; congr 1; omega
    rw [h1, List.take_append_drop, List.take_append_drop]
  have hp := h.perm
  rw [part z', part z, e1, e2] at hp
  have hp := (List.perm_append_left_iff _).1 hp
  have hp := (List.perm_append_right_iff _).1 hp
  have hm : g z' k ∈ (z'.drop a).take (b - a) := by
    have : ((z'.drop a).take (b - a))[k - a]? = some (g z' k) := by
      rw [List.getElem?_take, if_pos (by omega), List.getElem?_drop, show a + (k - a) = k by omega]
      exact g_some (by omega)
    exact List.mem_of_getElem? this
  have hm := hp.mem_iff.1 hm
  obtain ⟨i, hi, he⟩ := List.mem_iff_getElem.1 hm
  have hi' : i < b - a := by simp at hi; omega
  have := hP (a + i) (by omega) (by omega)
  have e3 : g z (a + i) = g z' k := by
    rw [← he, List.getElem_take, List.getElem_drop]
    unfold g
    rw [List.getD_eq_getElem?_getD, List.getElem?_eq_getElem (by omega)]; rfl
  rw [e3] at this
  exact this

/-- what orders -/
structure Cm (w0 : World) (p : Option Addr) (f : Value) (S : Int → Prop) (lt : Int → Int → Bool) : Prop where
  call : ∀ (w : World) (x y : Int) (R : Ending → World → Prop), Keep (ob p) w0 w → S x → S y → (∀ c w', (c < 0 ↔ lt x y = true) → Keep None w w' → R (.returned (J c)) w') → clF Try.prog f [J x, J y] w R
  asym : ∀ x y, S x → S y → lt x y = true → lt y x = false
  trans : ∀ x y z, S x → S y → S z → lt y x = false → lt z y = false → lt z x = false
def Sorted (lt : Int → Int → Bool) (a b : Nat) (z : List Int) : Prop := ∀ i j, a ≤ i → i < j → j < b → lt (g z j) (g z i) = false
/-- the list -/
structure Ar (w0 : World) (p : Option Addr) (n c : Nat) (S : Int → Prop) (w : World) (z : List Int) : Prop where
  own : Own w 3 1 p n c (z.map J)
  kp : Keep (ob p) w0 w
  all : ∀ x ∈ z, S x
section
variable {w0 w : World} {p : Option Addr} {n c : Nat} {S : Int → Prop} {lt : Int → Int → Bool} {f : Value} {z : List Int}
theorem Ar.len (h : Ar w0 p n c S w z) : z.length = n := by have := h.own.len; simpa using this
theorem Ar.drew (h : Ar w0 p n c S w z) : Ar w0 p n c S w.drew z := ⟨h.own.drew, h.kp.drew, h.all⟩
theorem Ar.keep0 {w' : World} (h : Ar w0 p n c S w z) (hk : Keep None w w') : Ar w0 p n c S w' z := ⟨h.own.keep0 hk, h.kp.then0 hk, h.all⟩
theorem Ar.s (h : Ar w0 p n c S w z) {k : Nat} (hk : k < n) : S (g z k) := h.all _ (g_mem (by rw [h.len]; exact hk))
theorem Ar.rd (h : Ar w0 p n c S w z) {i : Nat} (hi : i < n) {K : Int → Prop} (hK : K (g z i)) : ixA p n (i : Int) 1 fun a => ldI .i64 w a K := by
  have hl := h.len
  refine h.own.ix (by omega) (by omega) fun b hb => ?_
  rw [Nat.mul_one, Int.toNat_natCast]
  have h' := h.own
  rw [hb] at h'
  exact ldI_of (by rw [h'.cell _ (by omega), List.getElem?_map, g_some (by omega)]; rfl) hK
theorem Ar.wr (h : Ar w0 p n c S w z) {i : Nat} (hi : i < n) {v : Int} {K : World → Prop} (hK : ∀ w', Own w' 3 1 p n c ((z.set i v).map J) → Keep (ob p) w w' → K w') : ixA p n (i : Int) 1 fun a => st w (a.add 0) (J v) K := by
  refine h.own.ix (by omega) (by omega) fun b hb => ?_
  rw [Nat.mul_one, Int.toNat_natCast, add_mk, Nat.add_zero]
  have h' := h.own
  rw [hb] at h'
  refine h'.st (by omega) rfl fun w' hO hk _ => ?_
  refine hK w' ?_ (hk.mono fun j _ hj => ⟨_, hb, hj.symm⟩)
  rw [List.map_set, hb]
  exact hO
theorem Ar.swap (h : Ar w0 p n c S w z) {i j : Nat} (hi : i < n) (hj : j < n) {K : World → Prop} (hK : ∀ w', Ar w0 p n c S w' (swp z i j) → Keep (ob p) w w' → K w') :
    ixA p n (i : Int) 1 fun p26 => ldI .i64 w p26 fun x27 => ixA p n (j : Int) 1 fun p28 => ldI .i64 w p28 fun x29 => ixA p n (j : Int) 1 fun p30 => st w (p30.add 0) (.int .i64 x27) fun w5 =>
      ixA p n (i : Int) 1 fun p31 => st w5 (p31.add 0) (.int .i64 x29) fun w6 => K w6 := by
  have hl := h.len
  refine h.rd hi (h.rd hj (h.wr hj fun w5 hO5 k5 => ?_))
  have h5 : Ar w0 p n c S w5 (z.set j (g z i)) := ⟨hO5, h.kp.trans k5 fun _ _ h => h, fun x hx => by
    rcases List.mem_or_eq_of_mem_set hx with hx | hx
    · exact h.all x hx
    · rw [hx]; exact h.s hi⟩
  refine h5.wr hi fun w6 hO6 k6 => hK w6 ⟨hO6, h5.kp.trans k6 fun _ _ h => h, fun x hx => h.all x ?_⟩ (k5.trans k6 fun _ _ h => h)
  exact (swp_perm (by omega) (by omega)).mem_iff.1 hx
theorem Ar.cmp (cm : Cm w0 p f S lt) (h : Ar w0 p n c S w z) {i j : Nat} (hi : i < n) (hj : j < n) {K : Int → World → Prop} (hK : ∀ x w', (x < 0 ↔ lt (g z i) (g z j) = true) → Ar w0 p n c S w' z → Keep None w w' → K x w') :
    ixA p n (i : Int) 1 fun p50 => ldI .i64 w p50 fun x51 => ixA p n (j : Int) 1 fun p52 => ldI .i64 w p52 fun x53 =>
      clF Try.prog f [.int .i64 x51, .int .i64 x53] w fun e55 w10 => ∃ x54 : Int, e55 = Ending.returned (.int .i64 x54) ∧ K x54 w10 :=
  h.rd hi (h.rd hj (cm.call w _ _ _ h.kp (h.s hi) (h.s hj) fun x w' hx hk => ⟨x, rfl, hK x w' hx (h.keep0 hk) hk⟩))
theorem Ar.cmpG (cm : Cm w0 p f S lt) (h : Ar w0 p n c S w z) {b : Bool} {i' j' : Int} {i j : Nat} (hij : b = true → i' = i ∧ j' = j ∧ i < n ∧ j < n) {K : Int → World → Prop}
    (hK1 : b = true → ∀ x w', (x < 0 ↔ lt (g z i) (g z j) = true) → Ar w0 p n c S w' z → Keep None w w' → K x w') (hK2 : b = false → K 0 w) :
    gd (α := Addr) b (fun k10 => ixA p n i' 1 fun p11 => k10 p11 w) ⟨0, 0, none⟩ w fun x12 _ =>
    gd (α := Int) b (fun k13 => ldI .i64 w x12 fun x14 => k13 x14 w) 0 w fun x15 _ =>
    gd (α := Addr) b (fun k16 => ixA p n j' 1 fun p17 => k16 p17 w) ⟨0, 0, none⟩ w fun x18 _ =>
    gd (α := Int) b (fun k19 => ldI .i64 w x18 fun x20 => k19 x20 w) 0 w fun x21 _ =>
    gd (α := Int) b (fun k22 => clF Try.prog f [.int .i64 x15, .int .i64 x21] w fun e24 w3 => ∃ x23 : Int, e24 = Ending.returned (.int .i64 x23) ∧ k22 x23 w3) 0 w fun x25 w4 => K x25 w4 := by
  cases b with
  | true =>
    obtain ⟨rfl, rfl, hi, hj⟩ := hij rfl
    have hl := h.len
    have at' : ∀ {q : Nat}, q < n → ∀ {K : Addr → Prop}, (∀ a, w.cell? a = some (J (g z q)) → K a) → ixA p n (q : Int) 1 K := fun hq K hK => by
      refine h.own.ix (by omega) (by omega) fun b hb => hK _ ?_
      rw [Nat.mul_one, Int.toNat_natCast]
      have h' := h.own
      rw [hb] at h'
      rw [h'.cell _ (by omega), List.getElem?_map, g_some (by omega)]; rfl
    refine gd_t rfl (at' hi fun a1 h1 => gd_t rfl (ldI_of h1 (gd_t rfl (at' hj fun a2 h2 => gd_t rfl (ldI_of h2 (gd_t rfl ?_))))))
    exact cm.call w _ _ _ h.kp (h.s hi) (h.s hj) fun x w' hx hk => ⟨x, rfl, hK1 rfl x w' hx (h.keep0 hk) hk⟩
  | false => exact gd_f rfl (gd_f rfl (gd_f rfl (gd_f rfl (gd_f rfl (hK2 rfl)))))
theorem wrp {x : Int} (h : -4611686018427387904 ≤ x ∧ x ≤ 4611686018427387904) : IntKind.wrap .i64 x = x := by rw [IntKind.wrap_i64]; omega
theorem wrp1 {x : Nat} (h : x ≤ 2305843009213693952) : IntKind.wrap .i64 ((x : Int) + 1) = ((x + 1 : Nat) : Int) := by rw [wrp (by omega)]; omega
theorem wrm1 {x : Nat} (h : x ≤ 2305843009213693952) (h1 : 1 ≤ x) : IntKind.wrap .i64 ((x : Int) - 1) = ((x - 1 : Nat) : Int) := by rw [wrp (by omega)]; omega

/-- what a part of the sort leaves -/
def Res (w0 : World) (p : Option Addr) (n c : Nat) (S : Int → Prop) (a b : Nat) (z : List Int) (Q : List Int → Prop) (w w' : World) : Prop := ∃ z', Ar w0 p n c S w' z' ∧ SP a b z z' ∧ Q z' ∧ Keep (ob p) w w'

theorem ins (cm : Cm w0 p f S lt) (hn : n ≤ 1152921504606846976) (h : Ar w0 p n c S w z) {a b : Nat} (hab : a ≤ b) (hb : b ≤ n) :
    Calls Try.prog 75 #[.slice p n c, J a, J b, f] w fun e w' => e = .returned (.tuple #[]) ∧ Res w0 p n c S a b z (Sorted lt a b) w w' := by
  refine (V75_calls p n c a b f w (fun v w' => v = .tuple #[] ∧ Res w0 p n c S a b z (Sorted lt a b) w w') ?_).mono fun e w' ⟨v, he, hv, hk⟩ => ⟨by rw [he, hv], hk⟩
  unfold V75
  rw [wrp1 (by omega)]
  refine lp_of (fun s w1 => ∃ (i : Nat) (z1 : List Int), s.1 = i ∧ a + 1 ≤ i ∧ (i ≤ b ∨ i = a + 1) ∧ Ar w0 p n c S w1 z1 ∧ SP a b z z1 ∧ Sorted lt a i z1 ∧ Keep (ob p) w w1) (fun s _ => (b - s.1).toNat)
    ⟨a + 1, z, rfl, Nat.le_refl _, Or.inr rfl, h, SP.refl _ _ _, fun i j h1 h2 h3 => by omega, Keep.refl _ _⟩ ?_
  rintro ⟨i', ⟨⟩⟩ w1 ⟨i, z1, rfl, hi1, hi2, h1, sp1, so1, k1⟩
  simp only []
  refine pif_of (fun hlt => ?_) fun hge => ?_
  · have hlt : i < b := by simpa using hlt
    rw [wrp1 (by omega)]
    refine lp_of (fun s w2 => ∃ (j : Nat) (z2 : List Int), s.1 = j ∧ a ≤ j ∧ j ≤ i ∧ Ar w0 p n c S w2 z2 ∧ SP a b z z2 ∧ (∀ u v, a ≤ u → u < v → v ≤ i → v ≠ j → lt (g z2 v) (g z2 u) = false) ∧ Keep (ob p) w w2) (fun s _ => s.1.toNat)
      ⟨i, z1, rfl, by omega, Nat.le_refl _, h1, sp1, fun u v h1 h2 h3 h4 => so1 u v h1 h2 (by omega), k1⟩ ?_
    rintro ⟨j', ⟨⟩⟩ w2 ⟨j, z2, rfl, hj1, hj2, h2, sp2, so2, k2⟩
    simp only []
    have hl2 := h2.len
    have done : (j = a ∨ (a < j ∧ lt (g z2 j) (g z2 (j - 1)) = false)) → Sorted lt a (i + 1) z2 := fun hd u v hu huv hv => by
      by_cases hvj : v = j
      · subst hvj
        rcases hd with hd | ⟨hd1, hd2⟩
        · omega
        · by_cases hu1 : u = v - 1
          · subst hu1; exact hd2
          · have := so2 u (v - 1) hu (by omega) (by omega) (by omega)
            exact cm.trans _ _ _ (h2.s (by omega)) (h2.s (by omega)) (h2.s (by omega)) this hd2
      · exact so2 u v hu huv (by omega) hvj
    refine h2.drew.cmpG cm (i := j) (j := j - 1) (fun hb => ?_) (fun hb x w3 hx h3 k3 => ?_) (fun hb => ?_)
    · have hb : a < j := by simpa using hb
      exact ⟨rfl, wrm1 (by omega) (by omega), by omega, by omega⟩
    · have hja : a < j := by simpa using hb
      have kk : Keep (ob p) w w3 := k2.drew.then0 k3
      rw [hb]
      refine pif_of (fun hc => ?_) fun hc => ?_
      · have hc : x < 0 := by simpa using hc
        have hlt' := hx.1 hc
        rw [wrm1 (by omega) (by omega)]
        refine h3.drew.swap (by omega) (by omega) fun w4 h4 k4 => ?_
        refine ⟨⟨j - 1, swp z2 (j - 1) j, rfl, by omega, by omega, h4, sp2.trans (SP.swap (by omega) ⟨by omega, by omega⟩ ⟨by omega, by omega⟩), fun u v hu huv hv hne => ?_, kk.drew.trans k4 fun _ _ h => h⟩, by omega⟩
        rw [g_swp (by omega) (by omega), g_swp (by omega) (by omega)]
        rw [if_neg hne]
        by_cases hvj : v = j
        · subst hvj
          rw [if_pos rfl]
          by_cases hu1 : u = v - 1
          · rw [if_pos hu1]; exact cm.asym _ _ (h2.s (by omega)) (h2.s (by omega)) hlt'
          · rw [if_neg hu1, if_neg (by omega)]; exact so2 u (v - 1) hu (by omega) (by omega) (by omega)
        · rw [if_neg hvj]
          by_cases hu1 : u = j - 1
          · rw [if_pos hu1]; exact so2 j v (by omega) (by omega) hv hvj
          · rw [if_neg hu1]
            by_cases huj : u = j
            · rw [if_pos huj]; exact so2 (j - 1) v (by omega) (by omega) hv hvj
            · rw [if_neg huj]; exact so2 u v hu huv hv hvj
      · have hc : ¬ x < 0 := by simpa using hc
        have hnl : lt (g z2 j) (g z2 (j - 1)) = false := by
          cases hq : lt (g z2 j) (g z2 (j - 1)) with
          | true => exact absurd (hx.2 hq) hc
          | false => rfl
        exact ⟨⟨i + 1, z2, rfl, by omega, Or.inl hlt, h3, sp2, done (Or.inr ⟨hja, hnl⟩), kk⟩, by omega⟩
    · have hja : j = a := by simp at hb; omega
      rw [hb]
      exact pif_f rfl ⟨⟨i + 1, z2, rfl, by omega, Or.inl hlt, h2.drew, sp2, done (Or.inl hja), k2.drew⟩, by omega⟩
  · have hge : ¬ i < b := by simpa using hge
    exact ⟨by first | rfl | trivial, z1, h1, sp1, fun u v hu huv hv => so1 u v hu huv (by omega), k1⟩

theorem rev (hn : n ≤ 1152921504606846976) (h : Ar w0 p n c S w z) {a b : Nat} (hab : a < b) (hb : b ≤ n) :
    Calls Try.prog 79 #[.slice p n c, J a, J b, f] w fun e w' => e = .returned (.tuple #[]) ∧ Res w0 p n c S a b z (fun _ => True) w w' := by
  refine (V79_calls p n c a b f w (fun v w' => v = .tuple #[] ∧ Res w0 p n c S a b z (fun _ => True) w w') ?_).mono fun e w' ⟨v, he, hv, hk⟩ => ⟨by rw [he, hv], hk⟩
  unfold V79
  rw [wrm1 (by omega) (by omega)]
  refine lp_of (fun s w1 => ∃ (i j : Nat) (z1 : List Int), s.1 = i ∧ s.2.1 = j ∧ a ≤ i ∧ j < b ∧ (a ≤ j ∨ j ≤ i) ∧ Ar w0 p n c S w1 z1 ∧ SP a b z z1 ∧ Keep (ob p) w w1) (fun s _ => (s.2.1 - s.1).toNat)
    ⟨a, b - 1, z, rfl, rfl, Nat.le_refl _, by omega, by omega, h, SP.refl _ _ _, Keep.refl _ _⟩ ?_
  rintro ⟨i', j', ⟨⟩⟩ w1 ⟨i, j, z1, rfl, rfl, hi, hj, hij, h1, sp1, k1⟩
  simp only []
  have hl := h1.len
  refine pif_of (fun hlt => ?_) fun hge => ⟨by first | rfl | trivial, z1, h1, sp1, trivial, k1⟩
  have hlt : i < j := by simpa using hlt
  refine h1.drew.swap (by omega) (by omega) fun w2 h2 k2 => ?_
  rw [wrp1 (by omega), wrm1 (by omega) (by omega)]
  exact ⟨⟨i + 1, j - 1, swp z1 j i, rfl, rfl, by omega, by omega, by omega, h2, sp1.trans (SP.swap (by omega) ⟨by omega, by omega⟩ ⟨by omega, by omega⟩), k1.drew.trans k2 fun _ _ h => h⟩, by omega⟩
end
end Go.Proofs.Ytjpblaenebodlaa.Sort
