/- slices.SortFunc over ints: the list in memory, swaps, compares; insertion sort; reversal. -/
import Derived.Test.YtglhgmgegabinaaVcA
import Derived.Test.YtglhgmgegabinaaTSort
set_option linter.unusedVariables false
set_option linter.unusedSimpArgs false
set_option maxRecDepth 100000
namespace Go.Proofs.Ytglhgmgegabinaa.Sort
open Go Go.Proofs.Ytglhgmgegabinaa.Vc Go.Proofs.Ytglhgmgegabinaa.T

abbrev J (n : Int) : Value := .int .i64 n
/-- an element -/
abbrev E := Int × Int × Int × Int × Unit
def JE (e : E) : Value := .agg #[.int .i64 e.1, .int .i64 e.2.1, .int .i64 e.2.2.1, .int .i64 e.2.2.2.1]
def ce (e : E) : List Value := [.int .i64 e.1, .int .i64 e.2.1, .int .i64 e.2.2.1, .int .i64 e.2.2.2.1]
def fm (l : List E) : List Value := l.flatMap ce
theorem fm_app (l m : List E) : fm (l ++ m) = fm l ++ fm m := List.flatMap_append ..
theorem fm_len : ∀ l : List E, (fm l).length = l.length * 4 := by
  intro l
  induction l with
  | nil => rfl
  | cons x l ih => show (ce x ++ fm l).length = _; rw [List.length_append, ih, List.length_cons]; show 4 + _ = _; omega
theorem fm_at : ∀ {l : List E} {i k : Nat} {x : E}, l[i]? = some x → k < 4 → (fm l)[i * 4 + k]? = (ce x)[k]? := by
  intro l
  induction l with
  | nil => intro i k x h; cases h
  | cons y l ih =>
    intro i k x h hk
    show (ce y ++ fm l)[_]? = _
    cases i with
    | zero =>
      injection h with h
      subst h
      rw [List.getElem?_append_left (by show 0 * 4 + k < 4; omega), Nat.zero_mul, Nat.zero_add]
    | succ i =>
      rw [List.getElem?_append_right (by show 4 ≤ _; omega)]
      have : (i + 1) * 4 + k - (ce y).length = i * 4 + k := by show (i + 1) * 4 + k - 4 = _; omega
      rw [this]
      exact ih h hk
theorem fm_set : ∀ (l : List E) (i : Nat) (v : E), ((((fm l).set (i * 4) (.int .i64 v.1)).set (i * 4 + 1) (.int .i64 v.2.1)).set (i * 4 + 2) (.int .i64 v.2.2.1)).set (i * 4 + 3) (.int .i64 v.2.2.2.1) = fm (l.set i v) := by
  intro l
  induction l with
  | nil => intro i v; rfl
  | cons y l ih =>
    intro i v
    cases i with
    | zero => rfl
    | succ i =>
      rw [show (i + 1) * 4 = i * 4 + 1 + 1 + 1 + 1 by omega]
      have := ih i v
      show Value.int .i64 y.1 :: Value.int .i64 y.2.1 :: Value.int .i64 y.2.2.1 :: Value.int .i64 y.2.2.2.1 :: (((((fm l).set (i * 4) _).set (i * 4 + 1) _).set (i * 4 + 2) _).set (i * 4 + 3) _) = _
      rw [this]; rfl
def g (z : List E) (k : Nat) : E := z.getD k (0, 0, 0, 0, ())
def swp (z : List E) (i j : Nat) : List E := (z.set j (g z i)).set i (g z j)
theorem swp_len (z : List E) (i j : Nat) : (swp z i j).length = z.length := by simp [swp]
theorem g_some {z : List E} {k : Nat} (h : k < z.length) : z[k]? = some (g z k) := by
  unfold g; rw [List.getD_eq_getElem?_getD, List.getElem?_eq_getElem h]; rfl
theorem g_set {z : List E} {i k : Nat} {x : E} (hi : i < z.length) : g (z.set i x) k = if k = i then x else g z k := by
  unfold g
  rw [List.getD_eq_getElem?_getD, List.getElem?_set, List.getD_eq_getElem?_getD]
  by_cases h : k = i
  · subst h; simp [hi]
  · rw [if_neg (Ne.symm h), if_neg h]
theorem g_swp {z : List E} {i j k : Nat} (hi : i < z.length) (hj : j < z.length) : g (swp z i j) k = if k = i then g z j else if k = j then g z i else g z k := by
  unfold swp
  rw [g_set (by simpa using hi), g_set hj]
theorem g_mem {z : List E} {k : Nat} (h : k < z.length) : g z k ∈ z := List.mem_of_getElem? (g_some h)
theorem swp_perm {z : List E} {i j : Nat} (hi : i < z.length) (hj : j < z.length) : (swp z i j).Perm z := by
  have e1 : g z i = z[i] := by unfold g; rw [List.getD_eq_getElem?_getD, List.getElem?_eq_getElem hi]; rfl
  have e2 : g z j = z[j] := by unfold g; rw [List.getD_eq_getElem?_getD, List.getElem?_eq_getElem hj]; rfl
  unfold swp
  rw [e1, e2]
  exact List.set_set_perm hj hi

/-- the same but for the order within a range -/
structure SP (a b : Nat) (z z' : List E) : Prop where
  len : z'.length = z.length
  perm : z'.Perm z
  out : ∀ k, k < a ∨ b ≤ k → g z' k = g z k
theorem SP.refl (a b : Nat) (z : List E) : SP a b z z := ⟨rfl, List.Perm.refl _, fun _ _ => rfl⟩
theorem SP.trans {a b : Nat} {z z1 z2 : List E} (h : SP a b z z1) (h' : SP a b z1 z2) : SP a b z z2 :=
  ⟨h'.len.trans h.len, h'.perm.trans h.perm, fun k hk => (h'.out k hk).trans (h.out k hk)⟩
theorem SP.mono {a b a' b' : Nat} {z z1 : List E} (h : SP a b z z1) (ha : a' ≤ a) (hb : b ≤ b') : SP a' b' z z1 :=
  ⟨h.len, h.perm, fun k hk => h.out k (by omega)⟩
theorem SP.swap {a b i j : Nat} {z : List E} (hb : b ≤ z.length) (hi : a ≤ i ∧ i < b) (hj : a ≤ j ∧ j < b) : SP a b z (swp z i j) :=
  ⟨swp_len _ _ _, swp_perm (by omega) (by omega), fun k hk => by
    rw [g_swp (by omega) (by omega), if_neg (by omega), if_neg (by omega)]⟩
theorem ext_g {x y : List E} (hl : x.length = y.length) (h : ∀ k, k < x.length → g x k = g y k) : x = y := by
  apply List.ext_getElem hl
  intro k h1 h2
  have := h k h1
  unfold g at this
  rw [List.getD_eq_getElem?_getD, List.getD_eq_getElem?_getD, List.getElem?_eq_getElem h1, List.getElem?_eq_getElem h2] at this
  exact this
theorem SP.all {a b : Nat} {z z' : List E} (h : SP a b z z') (hb : b ≤ z.length) {P : E → Prop} (hP : ∀ k, a ≤ k → k < b → P (g z k)) : ∀ k, a ≤ k → k < b → P (g z' k) := by
  intro k hk1 hk2
  have hl := h.len
  have e1 : z'.take a = z.take a := ext_g (by simp; omega) fun i hi => by
    have hi' : i < a := by simp at hi; omega
    have := h.out i (Or.inl hi')
    unfold g at this ⊢
    rw [List.getD_eq_getElem?_getD, List.getD_eq_getElem?_getD, List.getElem?_take, List.getElem?_take, if_pos hi', if_pos hi', ← List.getD_eq_getElem?_getD, ← List.getD_eq_getElem?_getD]
    exact this
  have e2 : z'.drop b = z.drop b := ext_g (by simp; omega) fun i hi => by
    have := h.out (b + i) (Or.inr (by omega))
    unfold g at this ⊢
    rw [List.getD_eq_getElem?_getD, List.getD_eq_getElem?_getD, List.getElem?_drop, List.getElem?_drop, ← List.getD_eq_getElem?_getD, ← List.getD_eq_getElem?_getD]
    exact this
  have part : ∀ x : List E, x = x.take a ++ ((x.drop a).take (b - a) ++ x.drop b) := fun x => by
    have h1 : x.drop b = (x.drop a).drop (b - a) := by rw [List.drop_drop]; congr 1; omega
    rw [h1, List.take_append_drop, List.take_append_drop]
  have hp := h.perm
  rw [part z', part z, e1, e2] at hp
  have hp := (List.perm_append_left_iff _).1 hp
  have hp := (List.perm_append_right_iff _).1 hp
  have hm : g z' k ∈ (z'.drop a).take (b - a) := by
    have : ((z'.drop a).take (b - a))[k - a]? = some (g z' k) := by
      rw [List.getElem?_take, if_pos (by omega), List.getElem?_drop, show a + (k - a) = k by omega]
      exact g_some (by omega)
    exact List.mem_of_getElem? this
  have hm := hp.mem_iff.1 hm
  obtain ⟨i, hi, he⟩ := List.mem_iff_getElem.1 hm
  have hi' : i < b - a := by simp at hi; omega
  have := hP (a + i) (by omega) (by omega)
  have e3 : g z (a + i) = g z' k := by
    rw [← he, List.getElem_take, List.getElem_drop]
    unfold g
    rw [List.getD_eq_getElem?_getD, List.getElem?_eq_getElem (by omega)]; rfl
  rw [e3] at this
  exact this

/-- what orders -/
structure Cm (w0 : World) (p : Option Addr) (f : Value) (S : E → Prop) (lt : E → E → Bool) : Prop where
  call : ∀ (w : World) (x y : E) (R : Ending → World → Prop), Keep (ob p) w0 w → S x → S y → (∀ c w', (c < 0 ↔ lt x y = true) → Keep None w w' → R (.returned (J c)) w') → clF Try.prog f [JE x, JE y] w R
  asym : ∀ x y, S x → S y → lt x y = true → lt y x = false
  trans : ∀ x y z, S x → S y → S z → lt y x = false → lt z y = false → lt z x = false
def Sorted (lt : E → E → Bool) (a b : Nat) (z : List E) : Prop := ∀ i j, a ≤ i → i < j → j < b → lt (g z j) (g z i) = false
/-- the list -/
structure Ar (w0 : World) (p : Option Addr) (n c : Nat) (S : E → Prop) (w : World) (z : List E) : Prop where
  own : Own w 30 4 p n c (fm z)
  kp : Keep (ob p) w0 w
  all : ∀ x ∈ z, S x
section
variable {w0 w : World} {p : Option Addr} {n c : Nat} {S : E → Prop} {lt : E → E → Bool} {f : Value} {z : List E}
theorem Ar.len (h : Ar w0 p n c S w z) : z.length = n := by have := h.own.len; rw [fm_len] at this; omega
theorem Ar.drew (h : Ar w0 p n c S w z) : Ar w0 p n c S w.drew z := ⟨h.own.drew, h.kp.drew, h.all⟩
theorem Ar.keep0 {w' : World} (h : Ar w0 p n c S w z) (hk : Keep None w w') : Ar w0 p n c S w' z := ⟨h.own.keep0 hk, h.kp.then0 hk, h.all⟩
theorem Ar.s (h : Ar w0 p n c S w z) {k : Nat} (hk : k < n) : S (g z k) := h.all _ (g_mem (by rw [h.len]; exact hk))
theorem Ar.at (h : Ar w0 p n c S w z) {i : Nat} (hi : i < n) {K : Addr → Prop} (hK : ∀ a : Addr, w.cell? (a.add 0) = some (J (g z i).1) → w.cell? (a.add 1) = some (J (g z i).2.1) → w.cell? (a.add 2) = some (J (g z i).2.2.1) → w.cell? (a.add 3) = some (J (g z i).2.2.2.1) → K a) : ixA p n (i : Int) 4 K := by
  have hl := h.len
  refine h.own.ix (by omega) (by omega) fun b hb => ?_
  rw [Int.toNat_natCast]
  have h' := h.own
  rw [hb] at h'
  have cell : ∀ k, k < 4 → w.cell? ((⟨b, i * 4, none⟩ : Addr).add k) = (ce (g z i))[k]? := fun k hk => by
    rw [add_mk, h'.cell _ (by omega), fm_at (g_some (by omega)) hk]
  exact hK _ (cell 0 (by omega)) (cell 1 (by omega)) (cell 2 (by omega)) (cell 3 (by omega))
theorem Ar.rd (h : Ar w0 p n c S w z) {i : Nat} (hi : i < n) {K : Int → Int → Int → Int → Prop} (hK : K (g z i).1 (g z i).2.1 (g z i).2.2.1 (g z i).2.2.2.1) :
    ixA p n (i : Int) 4 fun a => ldI .i64 w (a.add 0) fun x0 => ldI .i64 w (a.add 1) fun x1 => ldI .i64 w (a.add 2) fun x2 => ldI .i64 w (a.add 3) fun x3 => K x0 x1 x2 x3 :=
  h.at hi fun a h0 h1 h2 h3 => ldI_of h0 (ldI_of h1 (ldI_of h2 (ldI_of h3 hK)))
theorem Ar.wr (h : Ar w0 p n c S w z) {i : Nat} (hi : i < n) {v : E} {K : World → Prop} (hK : ∀ w', Own w' 30 4 p n c (fm (z.set i v)) → Keep (ob p) w w' → K w') :
    ixA p n (i : Int) 4 fun a => st w (a.add 0) (.int .i64 v.1) fun w1 => st w1 (a.add 1) (.int .i64 v.2.1) fun w2 => st w2 (a.add 2) (.int .i64 v.2.2.1) fun w3 => st w3 (a.add 3) (.int .i64 v.2.2.2.1) K := by
  refine h.own.ix (by omega) (by omega) fun b hb => ?_
  rw [Int.toNat_natCast, add_mk, add_mk, add_mk, add_mk, Nat.add_zero]
  have h' := h.own
  rw [hb] at h'
  refine h'.st (by omega) rfl fun w1 hO k1 _ => ?_
  refine hO.st (by omega) rfl fun w2 hO k2 _ => ?_
  refine hO.st (by omega) rfl fun w3 hO k3 _ => ?_
  refine hO.st (by omega) rfl fun w4 hO k4 _ => ?_
  refine hK w4 ?_ ((((k1.trans k2 fun _ _ h => h).trans k3 fun _ _ h => h).trans k4 fun _ _ h => h).mono fun j _ hj => ⟨_, hb, hj.symm⟩)
  rw [← fm_set, hb]
  exact hO
theorem Ar.swap (h : Ar w0 p n c S w z) {i j : Nat} (hi : i < n) (hj : j < n) {K : World → Prop} (hK : ∀ w', Ar w0 p n c S w' (swp z i j) → Keep (ob p) w w' → K w') :
    ixA p n (i : Int) 4 fun a => ldI .i64 w (a.add 0) fun x0 => ldI .i64 w (a.add 1) fun x1 => ldI .i64 w (a.add 2) fun x2 => ldI .i64 w (a.add 3) fun x3 =>
    ixA p n (j : Int) 4 fun a => ldI .i64 w (a.add 0) fun y0 => ldI .i64 w (a.add 1) fun y1 => ldI .i64 w (a.add 2) fun y2 => ldI .i64 w (a.add 3) fun y3 =>
    ixA p n (j : Int) 4 fun a => st w (a.add 0) (.int .i64 x0) fun w1 => st w1 (a.add 1) (.int .i64 x1) fun w2 => st w2 (a.add 2) (.int .i64 x2) fun w3 => st w3 (a.add 3) (.int .i64 x3) fun w4 =>
    ixA p n (i : Int) 4 fun a => st w4 (a.add 0) (.int .i64 y0) fun w5 => st w5 (a.add 1) (.int .i64 y1) fun w6 => st w6 (a.add 2) (.int .i64 y2) fun w7 => st w7 (a.add 3) (.int .i64 y3) fun w8 => K w8 := by
  have hl := h.len
  refine h.rd hi (h.rd hj (h.wr hj (v := g z i) fun w5 hO5 k5 => ?_))
  have h5 : Ar w0 p n c S w5 (z.set j (g z i)) := ⟨hO5, h.kp.trans k5 fun _ _ h => h, fun x hx => by
    rcases List.mem_or_eq_of_mem_set hx with hx | hx
    · exact h.all x hx
    · rw [hx]; exact h.s hi⟩
  refine h5.wr hi (v := g z j) fun w6 hO6 k6 => hK w6 ⟨hO6, h5.kp.trans k6 fun _ _ h => h, fun x hx => h.all x ?_⟩ (k5.trans k6 fun _ _ h => h)
  exact (swp_perm (by omega) (by omega)).mem_iff.1 hx
theorem Ar.cmp (cm : Cm w0 p f S lt) (h : Ar w0 p n c S w z) {i j : Nat} (hi : i < n) (hj : j < n) {K : Int → World → Prop} (hK : ∀ x w', (x < 0 ↔ lt (g z i) (g z j) = true) → Ar w0 p n c S w' z → Keep None w w' → K x w') :
    ixA p n (i : Int) 4 fun a => ldI .i64 w (a.add 0) fun x0 => ldI .i64 w (a.add 1) fun x1 => ldI .i64 w (a.add 2) fun x2 => ldI .i64 w (a.add 3) fun x3 =>
    ixA p n (j : Int) 4 fun a => ldI .i64 w (a.add 0) fun y0 => ldI .i64 w (a.add 1) fun y1 => ldI .i64 w (a.add 2) fun y2 => ldI .i64 w (a.add 3) fun y3 =>
      clF Try.prog f [.agg #[.int .i64 x0, .int .i64 x1, .int .i64 x2, .int .i64 x3], .agg #[.int .i64 y0, .int .i64 y1, .int .i64 y2, .int .i64 y3]] w fun e55 w10 => ∃ x54 : Int, e55 = Ending.returned (.int .i64 x54) ∧ K x54 w10 :=
  h.rd hi (h.rd hj (cm.call w _ _ _ h.kp (h.s hi) (h.s hj) fun x w' hx hk => ⟨x, rfl, hK x w' hx (h.keep0 hk) hk⟩))
theorem Ar.cmpG (cm : Cm w0 p f S lt) (h : Ar w0 p n c S w z) {b : Bool} {i' j' : Int} {i j : Nat} (hij : b = true → i' = i ∧ j' = j ∧ i < n ∧ j < n) {K : Int → World → Prop}
    (hK1 : b = true → ∀ x w', (x < 0 ↔ lt (g z i) (g z j) = true) → Ar w0 p n c S w' z → Keep None w w' → K x w') (hK2 : b = false → K 0 w) :
    gd (α := Addr) b (fun k10 => ixA p n i' 4 fun p11 => k10 p11 w) ⟨0, 0, none⟩ w fun x12 _ =>
    gd (α := E) b (fun k13 => ldI .i64 w (x12.add 0) fun y0 => ldI .i64 w (x12.add 1) fun y1 => ldI .i64 w (x12.add 2) fun y2 => ldI .i64 w (x12.add 3) fun y3 => k13 (y0, y1, y2, y3, ()) w) (0, 0, 0, 0, ()) w fun x15 _ =>
    gd (α := Addr) b (fun k16 => ixA p n j' 4 fun p17 => k16 p17 w) ⟨0, 0, none⟩ w fun x18 _ =>
    gd (α := E) b (fun k19 => ldI .i64 w (x18.add 0) fun y0 => ldI .i64 w (x18.add 1) fun y1 => ldI .i64 w (x18.add 2) fun y2 => ldI .i64 w (x18.add 3) fun y3 => k19 (y0, y1, y2, y3, ()) w) (0, 0, 0, 0, ()) w fun x21 _ =>
    gd (α := Int) b (fun k22 => clF Try.prog f [.agg #[.int .i64 x15.1, .int .i64 x15.2.1, .int .i64 x15.2.2.1, .int .i64 x15.2.2.2.1], .agg #[.int .i64 x21.1, .int .i64 x21.2.1, .int .i64 x21.2.2.1, .int .i64 x21.2.2.2.1]] w fun e24 w3 => ∃ x23 : Int, e24 = Ending.returned (.int .i64 x23) ∧ k22 x23 w3) 0 w fun x25 w4 => K x25 w4 := by
  cases b with
  | true =>
    obtain ⟨rfl, rfl, hi, hj⟩ := hij rfl
    refine gd_t rfl (h.at hi fun a h0 h1 h2 h3 => gd_t rfl (ldI_of h0 (ldI_of h1 (ldI_of h2 (ldI_of h3 (gd_t rfl (h.at hj fun a h0 h1 h2 h3 => gd_t rfl (ldI_of h0 (ldI_of h1 (ldI_of h2 (ldI_of h3 (gd_t rfl ?_))))))))))))
    exact cm.call w _ _ _ h.kp (h.s hi) (h.s hj) fun x w' hx hk => ⟨x, rfl, hK1 rfl x w' hx (h.keep0 hk) hk⟩
  | false => exact gd_f rfl (gd_f rfl (gd_f rfl (gd_f rfl (gd_f rfl (hK2 rfl)))))
theorem wrp {x : Int} (h : -4611686018427387904 ≤ x ∧ x ≤ 4611686018427387904) : IntKind.wrap .i64 x = x := by rw [IntKind.wrap_i64]; omega
theorem wrp1 {x : Nat} (h : x ≤ 2305843009213693952) : IntKind.wrap .i64 ((x : Int) + 1) = ((x + 1 : Nat) : Int) := by rw [wrp (by omega)]; omega
theorem wrm1 {x : Nat} (h : x ≤ 2305843009213693952) (h1 : 1 ≤ x) : IntKind.wrap .i64 ((x : Int) - 1) = ((x - 1 : Nat) : Int) := by rw [wrp (by omega)]; omega

/-- what a part of the sort leaves -/
def Res (w0 : World) (p : Option Addr) (n c : Nat) (S : E → Prop) (a b : Nat) (z : List E) (Q : List E → Prop) (w w' : World) : Prop := ∃ z', Ar w0 p n c S w' z' ∧ SP a b z z' ∧ Q z' ∧ Keep (ob p) w w'

theorem ins (cm : Cm w0 p f S lt) (hn : n ≤ 1152921504606846976) (h : Ar w0 p n c S w z) {a b : Nat} (hab : a ≤ b) (hb : b ≤ n) :
    Calls Try.prog 19 #[.slice p n c, J a, J b, f] w fun e w' => e = .returned (.tuple #[]) ∧ Res w0 p n c S a b z (Sorted lt a b) w w' := by
  refine (V19_calls p n c a b f w (fun v w' => v = .tuple #[] ∧ Res w0 p n c S a b z (Sorted lt a b) w w') ?_).mono fun e w' ⟨v, he, hv, hk⟩ => ⟨by rw [he, hv], hk⟩
  unfold V19
  rw [wrp1 (by omega)]
  refine lp_of (fun s w1 => ∃ (i : Nat) (z1 : List E), s.1 = i ∧ a + 1 ≤ i ∧ (i ≤ b ∨ i = a + 1) ∧ Ar w0 p n c S w1 z1 ∧ SP a b z z1 ∧ Sorted lt a i z1 ∧ Keep (ob p) w w1) (fun s _ => (b - s.1).toNat)
    ⟨a + 1, z, rfl, Nat.le_refl _, Or.inr rfl, h, SP.refl _ _ _, fun i j h1 h2 h3 => by omega, Keep.refl _ _⟩ ?_
  rintro ⟨i', ⟨⟩⟩ w1 ⟨i, z1, rfl, hi1, hi2, h1, sp1, so1, k1⟩
  simp only []
  refine pif_of (fun hlt => ?_) fun hge => ?_
  · have hlt : i < b := by simpa using hlt
    rw [wrp1 (by omega)]
    refine lp_of (fun s w2 => ∃ (j : Nat) (z2 : List E), s.1 = j ∧ a ≤ j ∧ j ≤ i ∧ Ar w0 p n c S w2 z2 ∧ SP a b z z2 ∧ (∀ u v, a ≤ u → u < v → v ≤ i → v ≠ j → lt (g z2 v) (g z2 u) = false) ∧ Keep (ob p) w w2) (fun s _ => s.1.toNat)
      ⟨i, z1, rfl, by omega, Nat.le_refl _, h1, sp1, fun u v h1 h2 h3 h4 => so1 u v h1 h2 (by omega), k1⟩ ?_
    rintro ⟨j', ⟨⟩⟩ w2 ⟨j, z2, rfl, hj1, hj2, h2, sp2, so2, k2⟩
    simp only []
    have hl2 := h2.len
    have done : (j = a ∨ (a < j ∧ lt (g z2 j) (g z2 (j - 1)) = false)) → Sorted lt a (i + 1) z2 := fun hd u v hu huv hv => by
      by_cases hvj : v = j
      · subst hvj
        rcases hd with hd | ⟨hd1, hd2⟩
        · omega
        · by_cases hu1 : u = v - 1
          · subst hu1; exact hd2
          · have := so2 u (v - 1) hu (by omega) (by omega) (by omega)
            exact cm.trans _ _ _ (h2.s (by omega)) (h2.s (by omega)) (h2.s (by omega)) this hd2
      · exact so2 u v hu huv (by omega) hvj
    refine h2.drew.cmpG cm (i := j) (j := j - 1) (fun hb => ?_) (fun hb x w3 hx h3 k3 => ?_) (fun hb => ?_)
    · have hb : a < j := by simpa using hb
      exact ⟨rfl, wrm1 (by omega) (by omega), by omega, by omega⟩
    · have hja : a < j := by simpa using hb
      have kk : Keep (ob p) w w3 := k2.drew.then0 k3
      rw [hb]
      refine pif_of (fun hc => ?_) fun hc => ?_
      · have hc : x < 0 := by simpa using hc
        have hlt' := hx.1 hc
        rw [wrm1 (by omega) (by omega)]
        refine h3.drew.swap (by omega) (by omega) fun w4 h4 k4 => ?_
        refine ⟨⟨j - 1, swp z2 (j - 1) j, rfl, by omega, by omega, h4, sp2.trans (SP.swap (by omega) ⟨by omega, by omega⟩ ⟨by omega, by omega⟩), fun u v hu huv hv hne => ?_, kk.drew.trans k4 fun _ _ h => h⟩, by omega⟩
        rw [g_swp (by omega) (by omega), g_swp (by omega) (by omega)]
        rw [if_neg hne]
        by_cases hvj : v = j
        · subst hvj
          rw [if_pos rfl]
          by_cases hu1 : u = v - 1
          · rw [if_pos hu1]; exact cm.asym _ _ (h2.s (by omega)) (h2.s (by omega)) hlt'
          · rw [if_neg hu1, if_neg (by omega)]; exact so2 u (v - 1) hu (by omega) (by omega) (by omega)
        · rw [if_neg hvj]
          by_cases hu1 : u = j - 1
          · rw [if_pos hu1]; exact so2 j v (by omega) (by omega) hv hvj
          · rw [if_neg hu1]
            by_cases huj : u = j
            · rw [if_pos huj]; exact so2 (j - 1) v (by omega) (by omega) hv hvj
            · rw [if_neg huj]; exact so2 u v hu huv hv hvj
      · have hc : ¬ x < 0 := by simpa using hc
        have hnl : lt (g z2 j) (g z2 (j - 1)) = false := by
          cases hq : lt (g z2 j) (g z2 (j - 1)) with
          | true => exact absurd (hx.2 hq) hc
          | false => rfl
        exact ⟨⟨i + 1, z2, rfl, by omega, Or.inl hlt, h3, sp2, done (Or.inr ⟨hja, hnl⟩), kk⟩, by omega⟩
    · have hja : j = a := by simp at hb; omega
      rw [hb]
      exact pif_f rfl ⟨⟨i + 1, z2, rfl, by omega, Or.inl hlt, h2.drew, sp2, done (Or.inl hja), k2.drew⟩, by omega⟩
  · have hge : ¬ i < b := by simpa using hge
    exact ⟨by first | rfl | trivial, z1, h1, sp1, fun u v hu huv hv => so1 u v hu huv (by omega), k1⟩

theorem rev (hn : n ≤ 1152921504606846976) (h : Ar w0 p n c S w z) {a b : Nat} (hab : a < b) (hb : b ≤ n) :
    Calls Try.prog 23 #[.slice p n c, J a, J b, f] w fun e w' => e = .returned (.tuple #[]) ∧ Res w0 p n c S a b z (fun _ => True) w w' := by
  refine (V23_calls p n c a b f w (fun v w' => v = .tuple #[] ∧ Res w0 p n c S a b z (fun _ => True) w w') ?_).mono fun e w' ⟨v, he, hv, hk⟩ => ⟨by rw [he, hv], hk⟩
  unfold V23
  rw [wrm1 (by omega) (by omega)]
  refine lp_of (fun s w1 => ∃ (i j : Nat) (z1 : List E), s.1 = i ∧ s.2.1 = j ∧ a ≤ i ∧ j < b ∧ (a ≤ j ∨ j ≤ i) ∧ Ar w0 p n c S w1 z1 ∧ SP a b z z1 ∧ Keep (ob p) w w1) (fun s _ => (s.2.1 - s.1).toNat)
    ⟨a, b - 1, z, rfl, rfl, Nat.le_refl _, by omega, by omega, h, SP.refl _ _ _, Keep.refl _ _⟩ ?_
  rintro ⟨i', j', ⟨⟩⟩ w1 ⟨i, j, z1, rfl, rfl, hi, hj, hij, h1, sp1, k1⟩
  simp only []
  have hl := h1.len
  refine pif_of (fun hlt => ?_) fun hge => ⟨by first | rfl | trivial, z1, h1, sp1, trivial, k1⟩
  have hlt : i < j := by simpa using hlt
  refine h1.drew.swap (by omega) (by omega) fun w2 h2 k2 => ?_
  rw [wrp1 (by omega), wrm1 (by omega) (by omega)]
  exact ⟨⟨i + 1, j - 1, swp z1 j i, rfl, rfl, by omega, by omega, by omega, h2, sp1.trans (SP.swap (by omega) ⟨by omega, by omega⟩ ⟨by omega, by omega⟩), k1.drew.trans k2 fun _ _ h => h⟩, by omega⟩
end
end Go.Proofs.Ytglhgmgegabinaa.Sort
