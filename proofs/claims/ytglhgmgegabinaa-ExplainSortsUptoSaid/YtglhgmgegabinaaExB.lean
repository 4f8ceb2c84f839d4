/- Faults: read, held against one another, ordered; rising numbers. -/
import Derived.Test.YtglhgmgegabinaaExA
set_option linter.unusedVariables false
set_option linter.unusedSimpArgs false
set_option linter.unusedSectionVars false
set_option maxRecDepth 100000
namespace Go.Proofs.Ytglhgmgegabinaa.Ex
open Go Go.Proofs.Ytglhgmgegabinaa.Vc Go.Proofs.Ytglhgmgegabinaa.T
open Go.Proofs.Ytglhgmgegabinaa.Sort (E JE ce fm fm_app fm_len fm_at fm_set)

theorem getE {α : Type} {l : List α} {k : Nat} (h : k < l.length) : ∃ x, l[k]? = some x := ⟨_, List.getElem?_eq_getElem h⟩
theorem wrap_nat (i : Nat) (h : i < 4611686018427387904) : IntKind.wrap .i64 ((i : Int) + 1) = ((i + 1 : Nat) : Int) := by rw [IntKind.wrap_i64]; omega
theorem wrap_dec (i : Nat) (h : i < 4611686018427387904) (h0 : 0 < i) : IntKind.wrap .i64 ((i : Int) - 1) = ((i - 1 : Nat) : Int) := by rw [IntKind.wrap_i64]; omega
/-- a list of ints wherever it lies -/
structure RdL (w : World) (p : Option Addr) (n : Nat) (cs : List Int) : Prop where
  len : cs.length = n
  cell : ∀ (i : Nat) (x : Int), cs[i]? = some x → ∃ a, p = some a ∧ w.cell? (a.add i) = some (I x)
theorem RdL.keep0 {w w' : World} {p : Option Addr} {n : Nat} {cs : List Int} (h : RdL w p n cs) (hk : Keep None w w') : RdL w' p n cs :=
  ⟨h.len, fun i x hx => by
    obtain ⟨a, e, hc⟩ := h.cell i x hx
    exact ⟨a, e, hk.cell hc fun h => h⟩⟩
theorem RdL.ix {w : World} {p : Option Addr} {n : Nat} {cs : List Int} {i : Nat} {x : Int} {K : Addr → Prop} (h : RdL w p n cs) (hx : cs[i]? = some x) (hk : ∀ a, w.cell? a = some (I x) → K a) : ixA p n (i : Int) 1 K := by
  have hl := h.len
  have hi := (List.getElem?_eq_some_iff.1 hx).1
  obtain ⟨a, rfl, hc⟩ := h.cell i x hx
  refine ⟨by omega, by omega, ?_⟩
  show K _
  rw [Nat.mul_one, Int.toNat_natCast]
  exact hk _ hc
theorem blk_rdl {w : World} {b : Nat} {xs : List Int} {n : Nat} {t : TypeId} (h : Blk w b (xs.map I) t) (hn : xs.length = n) : RdL w (some ⟨b, 0, none⟩) n xs :=
  ⟨hn, fun i x hx => ⟨_, rfl, by rw [add_mk, Nat.zero_add, h.cell, List.getElem?_map, hx]; rfl⟩⟩
/-- a list of faults wherever it lies -/
structure RdF (w : World) (p : Option Addr) (n : Nat) (xs : List E) : Prop where
  len : xs.length = n
  cell : ∀ (i : Nat) (x : E), xs[i]? = some x → ∃ a : Addr, p = some a ∧ ∀ k, k < 4 → w.cell? ((a.add (i * 4)).add k) = (ce x)[k]?
/-- a fault's cells -/
def AtF (w : World) (a : Addr) (x : E) : Prop := w.cell? (a.add 0) = some (I x.1) ∧ w.cell? (a.add 1) = some (I x.2.1) ∧ w.cell? (a.add 2) = some (I x.2.2.1) ∧ w.cell? (a.add 3) = some (I x.2.2.2.1)
theorem AtF.keep0 {w w' : World} {a : Addr} {x : E} (h : AtF w a x) (hk : Keep None w w') : AtF w' a x := ⟨hk.cell h.1 fun h => h, hk.cell h.2.1 fun h => h, hk.cell h.2.2.1 fun h => h, hk.cell h.2.2.2 fun h => h⟩
theorem AtF.ld {w : World} {a : Addr} {x : E} {K : Int → Int → Int → Int → Prop} (h : AtF w a x) (hk : K x.1 x.2.1 x.2.2.1 x.2.2.2.1) :
    ldI .i64 w (a.add 0) fun x0 => ldI .i64 w (a.add 1) fun x1 => ldI .i64 w (a.add 2) fun x2 => ldI .i64 w (a.add 3) fun x3 => K x0 x1 x2 x3 :=
  ldI_of h.1 (ldI_of h.2.1 (ldI_of h.2.2.1 (ldI_of h.2.2.2 hk)))
theorem blk_at {w : World} {b : Nat} {x : E} {t : TypeId} (h : Blk w b (ce x) t) : AtF w ⟨b, 0, none⟩ x :=
  ⟨by rw [add_mk, h.cell]; rfl, by rw [add_mk, h.cell]; rfl, by rw [add_mk, h.cell]; rfl, by rw [add_mk, h.cell]; rfl⟩
section
variable {w w' : World} {p : Option Addr} {n c : Nat} {xs : List E}
theorem RdF.keep0 (h : RdF w p n xs) (hk : Keep None w w') : RdF w' p n xs := ⟨h.len, fun i x hx => by
  obtain ⟨a, e, hc⟩ := h.cell i x hx
  refine ⟨a, e, fun k hk' => ?_⟩
  have := hc k hk'
  rw [List.getElem?_eq_getElem (show k < (ce x).length from hk')] at this ⊢
  exact hk.cell this fun h => h⟩
theorem RdF.ix (h : RdF w p n xs) {i : Nat} {x : E} (hx : xs[i]? = some x) {K : Addr → Prop} (hk : ∀ a, AtF w a x → K a) : ixA p n (i : Int) 4 K := by
  have hl := h.len
  have hi := (List.getElem?_eq_some_iff.1 hx).1
  obtain ⟨a, rfl, hc⟩ := h.cell i x hx
  refine ⟨by omega, by omega, ?_⟩
  show K _
  rw [Int.toNat_natCast]
  exact hk _ ⟨hc 0 (by omega), hc 1 (by omega), hc 2 (by omega), hc 3 (by omega)⟩
theorem own_rdf (h : Own w 30 4 p n c (fm xs)) : RdF w p n xs := by
  have hl := h.len
  rw [fm_len] at hl
  refine ⟨by omega, fun i x hx => ?_⟩
  have hi := (List.getElem?_eq_some_iff.1 hx).1
  have h' := h
  rcases h' with ⟨_, hn, _⟩ | ⟨b, cs, rfl, _⟩
  · omega
  · exact ⟨_, rfl, fun k hk => by rw [add_mk, add_mk, Nat.zero_add, h.cell _ (by omega), fm_at hx hk]⟩
theorem blk_rdf {b : Nat} {t : TypeId} (h : Blk w b (fm xs) t) (hn : xs.length = n) : RdF w (some ⟨b, 0, none⟩) n xs :=
  ⟨hn, fun i x hx => ⟨_, rfl, fun k hk => by rw [add_mk, add_mk, Nat.zero_add, h.cell, fm_at hx hk]⟩⟩
theorem rdf_nil : RdF w none 0 [] := ⟨rfl, fun i x h => by simp at h⟩

/-- a call that answers v and changes nothing that was there -/
def Ans (w : World) (v0 : Value) (v : Value) (w' : World) : Prop := v = v0 ∧ Keep None w w'
theorem ans_of {k : FuncId} {args : Array Value} {v0 : Value} (h : Calls Try.prog k args w fun e w' => ∃ v, e = .returned v ∧ Ans w v0 v w') : Calls Try.prog k args w fun e w' => e = .returned v0 ∧ Keep None w w' :=
  h.mono fun e w' ⟨v, he, hv, hk⟩ => ⟨by rw [he, hv], hk⟩
end
/-- the order of faults -/
def ltE (x y : E) : Bool := if x.1 ≠ y.1 then decide (x.1 < y.1) else if x.2.1 ≠ y.2.1 then decide (x.2.1 < y.2.1) else if x.2.2.1 ≠ y.2.2.1 then decide (x.2.2.1 < y.2.2.1) else decide (x.2.2.2.1 < y.2.2.2.1)
theorem ltE_iff {x y : E} : ltE x y = true ↔ x.1 < y.1 ∨ (x.1 = y.1 ∧ (x.2.1 < y.2.1 ∨ (x.2.1 = y.2.1 ∧ (x.2.2.1 < y.2.2.1 ∨ (x.2.2.1 = y.2.2.1 ∧ x.2.2.2.1 < y.2.2.2.1))))) := by
  unfold ltE
  by_cases h1 : x.1 = y.1
  · by_cases h2 : x.2.1 = y.2.1
    · by_cases h3 : x.2.2.1 = y.2.2.1
      · simp [h1, h2, h3]
      · simp [h1, h2, h3]
    · simp [h1, h2]
  · simp [h1]
theorem ltE_no {x y : E} : ltE x y = false ↔ ¬ (x.1 < y.1 ∨ (x.1 = y.1 ∧ (x.2.1 < y.2.1 ∨ (x.2.1 = y.2.1 ∧ (x.2.2.1 < y.2.2.1 ∨ (x.2.2.1 = y.2.2.1 ∧ x.2.2.2.1 < y.2.2.2.1)))))) := by
  rw [← ltE_iff]; simp
theorem ltE_irr (x : E) : ltE x x = false := by rw [ltE_no]; omega
theorem ltE_asym {x y : E} (h : ltE x y = true) : ltE y x = false := by rw [ltE_iff] at h; rw [ltE_no]; omega
theorem ltE_trans {x y z : E} (h : ltE x y = true) (h' : ltE y z = true) : ltE x z = true := by rw [ltE_iff] at *; omega
theorem ltE_le {x y z : E} (h : ltE y x = false) (h' : ltE z y = false) : ltE z x = false := by rw [ltE_no] at *; omega
theorem ltE_tri {x y : E} (h : ltE x y = false) (h' : ltE y x = false) : x = y := by
  rw [ltE_no] at *
  obtain ⟨a, b, c, d, ⟨⟩⟩ := x
  obtain ⟨a', b', c', d', ⟨⟩⟩ := y
  simp only [] at h h'
  have : a = a' ∧ b = b' ∧ c = c' ∧ d = d' := by omega
  obtain ⟨rfl, rfl, rfl, rfl⟩ := this
  rfl

theorem nan29 (a : Int) (w : World) : Calls Try.prog 29 #[I a] w fun e w' => e = .returned (.bool false) ∧ Keep None w w' := by
  refine ans_of (V29_calls a w (Ans w _) ?_)
  unfold V29
  exact ⟨by simp, Keep.refl _ _⟩
def cmpI (a b : Int) : Int := if a < b then -1 else if a > b then 1 else 0
theorem cmp18 (a b : Int) (w : World) : Calls Try.prog 18 #[I a, I b] w fun e w' => e = .returned (I (cmpI a b)) ∧ Keep None w w' := by
  refine ans_of (V18_calls a b w (Ans w _) ?_)
  unfold V18
  refine cl_of ok29 (nan29 a w) fun e w1 ⟨he, k1⟩ => ⟨_, he, cl_of ok29 (nan29 b w1) fun e w2 ⟨he, k2⟩ => ⟨_, he, ?_⟩⟩
  have kk := k1.then0 k2
  refine pif_f rfl (pif_f rfl ?_)
  unfold cmpI
  refine pif_of (fun h => ⟨by rw [if_pos (by simpa using h)], kk⟩) fun h => ?_
  have h : ¬ a < b := by simpa using h
  rw [if_neg h]
  refine pif_of (fun h => ⟨by rw [if_pos (by simpa using h)], kk⟩) fun h => ⟨by rw [if_neg (by simpa using h)], kk⟩
/-- the first that is not nought -/
def orI : List Int → Int
  | [] => 0
  | x :: l => if x ≠ 0 then x else orI l
theorem or17 {w : World} {p : Option Addr} {n c : Nat} {cs : List Int} (h : RdL w p n cs) (hn : n ≤ 1048576) : Calls Try.prog 17 #[.slice p n c] w fun e w' => e = .returned (I (orI cs)) ∧ Keep None w w' := by
  refine ans_of (V17_calls p n c w (Ans w _) ?_)
  unfold V17
  have hl := h.len
  refine lp_of (fun s w1 => ∃ i : Nat, s.1 = (i : Int) ∧ i ≤ n ∧ orI (cs.drop i) = orI cs ∧ Keep None w w1) (fun s _ => (n - s.1).toNat) ⟨0, rfl, Nat.zero_le _, rfl, Keep.refl _ _⟩ ?_
  rintro ⟨i', ⟨⟩⟩ w1 ⟨i, rfl, hi, ho, k1⟩
  simp only []
  refine pif_of (fun hlt => ?_) fun hge => ?_
  · have hlt : i < n := by simpa using hlt
    rw [wrap_nat i (by omega)]
    have hx : cs[i]? = some (cs[i]'(by omega)) := List.getElem?_eq_getElem _
    refine (h.keep0 k1).ix hx fun a ha => ldI_of ha ?_
    rw [List.drop_eq_getElem_cons (by omega)] at ho
    refine pif_of (fun h => ⟨?_, k1⟩) fun h => ⟨⟨i + 1, rfl, hlt, ?_, k1⟩, by omega⟩
    · have h : ¬ cs[i] = 0 := by simpa using h
      rw [← ho, orI, if_pos h]
    · have h : cs[i] = 0 := by simpa using h
      rw [← ho, orI, if_neg (by simpa using h)]
  · have hge : i = n := by simp at hge; omega
    subst hge
    rw [List.drop_of_length_le (by omega)] at ho
    exact ⟨by rw [← ho]; rfl, k1⟩
def ordE (x y : E) : Int := orI [cmpI x.1 y.1, cmpI x.2.1 y.2.1, cmpI x.2.2.1 y.2.2.1, cmpI x.2.2.2.1 y.2.2.2.1]
theorem ordE_iff (x y : E) : ordE x y < 0 ↔ ltE x y = true := by
  rw [ltE_iff]
  unfold ordE orI orI orI orI orI cmpI
  repeat' split
  all_goals omega
theorem order12 (x y : E) (w : World) : Calls Try.prog 12 #[JE x, JE y] w fun e w' => e = .returned (I (ordE x y)) ∧ Keep None w w' := by
  refine ans_of (V12_calls x.1 x.2.1 x.2.2.1 x.2.2.2.1 y.1 y.2.1 y.2.2.1 y.2.2.2.1 w (Ans w _) ?_)
  unfold V12
  refine alc_at fun b2 w1 hb2 h2 k1 => ?_
  refine alc_at fun b3 w2 hb3 h3 k2 => ?_
  have dr : Keep None w2 w2.drew := (Keep.refl _ _).drew
  have a2 : AtF w2.drew ⟨b2, 0, none⟩ x := ((blk_at (x := x) h2).keep0 k2).keep0 dr
  have a3 : AtF w2.drew ⟨b3, 0, none⟩ y := (blk_at (x := y) h3).keep0 dr
  have kk := (k1.then0 k2).then0 dr
  generalize w2.drew = W at *
  refine ldI_of a2.1 (ldI_of a3.1 (ldI_of a2.2.1 (ldI_of a3.2.1 (ldI_of a2.2.2.1 (ldI_of a3.2.2.1 (ldI_of a2.2.2.2 (ldI_of a3.2.2.2 ?_)))))))
  refine cl_of ok18 (cmp18 _ _ W) fun e w3 ⟨he, k3⟩ => ⟨_, he, ?_⟩
  have b2' := a2.keep0 k3
  have b3' := a3.keep0 k3
  refine ⟨ldI_of b3'.2.2.2 rfl, ldI_of b2'.2.2.2 rfl, ldI_of b3'.2.2.1 rfl, ldI_of b2'.2.2.1 rfl, ldI_of b3'.2.1 rfl, ldI_of b2'.2.1 rfl, ?_⟩
  refine cl_of ok18 (cmp18 _ _ w3) fun e w4 ⟨he, k4⟩ => ⟨_, he, ?_⟩
  have c2 := b2'.keep0 k4
  have c3 := b3'.keep0 k4
  refine ⟨ldI_of c3.2.2.2 rfl, ldI_of c2.2.2.2 rfl, ldI_of c3.2.2.1 rfl, ldI_of c2.2.2.1 rfl, ?_⟩
  refine cl_of ok18 (cmp18 _ _ w4) fun e w5 ⟨he, k5⟩ => ⟨_, he, ?_⟩
  have d2 := c2.keep0 k5
  have d3 := c3.keep0 k5
  refine ⟨ldI_of d3.2.2.2 rfl, ldI_of d2.2.2.2 rfl, ?_⟩
  refine cl_of ok18 (cmp18 _ _ w5) fun e w6 ⟨he, k6⟩ => ⟨_, he, ?_⟩
  refine alc_at fun b w7 hb hB k7 => ?_
  refine cl_of ok17 (or17 (cs := [cmpI x.1 y.1, cmpI x.2.1 y.2.1, cmpI x.2.2.1 y.2.2.1, cmpI x.2.2.2.1 y.2.2.2.1]) (blk_rdl hB rfl) (by omega)) fun e w8 ⟨he, k8⟩ => ⟨_, he, rfl, ?_⟩
  exact (((((kk.then0 k3).then0 k4).then0 k5).then0 k6).then0 k7).then0 k8
theorem ahead14 (x y : E) (w : World) : Calls Try.prog 14 #[JE x, JE y] w fun e w' => e = .returned (.bool (ltE x y)) ∧ Keep None w w' := by
  refine ans_of (V14_calls x.1 x.2.1 x.2.2.1 x.2.2.2.1 y.1 y.2.1 y.2.2.1 y.2.2.2.1 w (Ans w _) ?_)
  unfold V14
  refine alc_at fun b2 w1 hb2 h2 k1 => ?_
  refine alc_at fun b3 w2 hb3 h3 k2 => ?_
  have a2 : AtF w2 ⟨b2, 0, none⟩ x := (blk_at (x := x) h2).keep0 k2
  have a3 : AtF w2 ⟨b3, 0, none⟩ y := blk_at (x := y) h3
  have kk := k1.then0 k2
  unfold ltE
  refine ldI_of a2.1 (ldI_of a3.1 (pif_of (fun h => ?_) fun h => ?_))
  · exact ldI_of a2.1 (ldI_of a3.1 ⟨by rw [if_pos (by simpa using h)], kk⟩)
  have h : x.1 = y.1 := by simpa using h
  rw [if_neg (by simpa using h)]
  refine ldI_of a2.2.1 (ldI_of a3.2.1 (pif_of (fun h => ?_) fun h => ?_))
  · exact ldI_of a2.2.1 (ldI_of a3.2.1 ⟨by rw [if_pos (by simpa using h)], kk⟩)
  have h : x.2.1 = y.2.1 := by simpa using h
  rw [if_neg (by simpa using h)]
  refine ldI_of a2.2.2.1 (ldI_of a3.2.2.1 (pif_of (fun h => ?_) fun h => ?_))
  · exact ldI_of a2.2.2.1 (ldI_of a3.2.2.1 ⟨by rw [if_pos (by simpa using h)], kk⟩)
  have h : x.2.2.1 = y.2.2.1 := by simpa using h
  rw [if_neg (by simpa using h)]
  exact ldI_of a2.2.2.2 (ldI_of a3.2.2.2 ⟨rfl, kk⟩)

theorem eqlE (x y : E) : eqL [.int .i64, .int .i64, .int .i64, .int .i64] x y = decide (x = y) := by
  obtain ⟨a, b, c, d, ⟨⟩⟩ := x
  obtain ⟨a', b', c', d', ⟨⟩⟩ := y
  simp [eqL]
theorem eqT (x y : E) {K : Bool → Prop} (hk : K (decide (x = y))) : eqV Try.prog .eql 30 (.agg #[.int .i64 x.1, .int .i64 x.2.1, .int .i64 x.2.2.1, .int .i64 x.2.2.2.1]) (.agg #[.int .i64 y.1, .int .i64 y.2.1, .int .i64 y.2.2.1, .int .i64 y.2.2.2.1]) K :=
  eqV_eql [.int .i64, .int .i64, .int .i64, .int .i64] x y (by kernel_rfl) (by rw [eqlE]; exact hk)
theorem neT (x y : E) {K : Bool → Prop} (hk : K (!decide (x = y))) : eqV Try.prog .neq 30 (.agg #[.int .i64 x.1, .int .i64 x.2.1, .int .i64 x.2.2.1, .int .i64 x.2.2.2.1]) (.agg #[.int .i64 y.1, .int .i64 y.2.1, .int .i64 y.2.2.1, .int .i64 y.2.2.2.1]) K :=
  eqV_neq [.int .i64, .int .i64, .int .i64, .int .i64] x y (by kernel_rfl) (by rw [eqlE]; exact hk)
section
variable {w : World} {p q : Option Addr} {n c m d : Nat} {xs ys : List E}
theorem same7 (hx : RdF w p n xs) (hy : RdF w q m ys) (hn : n ≤ 1099511627776) : Calls Try.prog 7 #[.slice p n c, .slice q m d] w fun e w' => e = .returned (.bool (decide (xs = ys))) ∧ Keep None w w' := by
  refine ans_of (V7_calls p n c q m d w (Ans w _) ?_)
  unfold V7
  have lx := hx.len
  have ly := hy.len
  refine pif_of (fun h => ?_) fun h => ?_
  · have h : ¬ n = m := by simp at h; omega
    refine ⟨?_, Keep.refl _ _⟩
    rw [decide_eq_false]
    rintro rfl; omega
  have h : n = m := by simp at h; omega
  subst h
  refine lp_of (fun s w1 => ∃ i : Nat, s.1 = (i : Int) ∧ i ≤ n ∧ xs.take i = ys.take i ∧ Keep None w w1) (fun s _ => (n - s.1).toNat) ⟨0, rfl, Nat.zero_le _, rfl, Keep.refl _ _⟩ ?_
  rintro ⟨i', ⟨⟩⟩ w1 ⟨i, rfl, hi, ht, k1⟩
  simp only []
  refine pif_of (fun hlt => ?_) fun hge => ?_
  · have hlt : i < n := by simpa using hlt
    rw [wrap_nat i (by omega)]
    obtain ⟨x, hxi⟩ := getE (show i < xs.length by omega)
    obtain ⟨y, hyi⟩ := getE (show i < ys.length by omega)
    have kd : Keep None w w1.drew := k1.drew
    refine (hx.keep0 kd).ix hxi fun a ha => ha.ld ((hy.keep0 kd).ix hyi fun b hb => hb.ld (neT x y ?_))
    refine pif_of (fun h => ⟨?_, kd⟩) fun h => ⟨⟨i + 1, rfl, hlt, ?_, kd⟩, by omega⟩
    · have h : ¬ x = y := by simpa using h
      rw [decide_eq_false]
      rintro rfl
      rw [hxi] at hyi; injection hyi with hyi; exact h hyi
    · have h : x = y := by simpa using h
      subst h
      rw [List.take_add_one, List.take_add_one, ht, hxi, hyi]
  · have hge : i = n := by simp at hge; omega
    subst hge
    rw [List.take_of_length_le (by omega), List.take_of_length_le (by omega)] at ht
    exact ⟨by rw [decide_eq_true ht], k1⟩
theorem among9 (hx : RdF w p n xs) (hn : n ≤ 1099511627776) (x : E) : Calls Try.prog 9 #[.slice p n c, JE x] w fun e w' => e = .returned (.bool (decide (x ∈ xs))) ∧ Keep None w w' := by
  refine ans_of (V9_calls p n c x.1 x.2.1 x.2.2.1 x.2.2.2.1 w (Ans w _) ?_)
  unfold V9
  have lx := hx.len
  refine alc_at fun b2 w0 hb2 h2 k0 => ?_
  have a2 : AtF w0 ⟨b2, 0, none⟩ x := blk_at (x := x) h2
  refine lp_of (fun s w1 => ∃ i : Nat, s.1 = (i : Int) ∧ i ≤ n ∧ x ∉ xs.take i ∧ Keep None w0 w1) (fun s _ => (n - s.1).toNat) ⟨0, rfl, Nat.zero_le _, by simp, Keep.refl _ _⟩ ?_
  rintro ⟨i', ⟨⟩⟩ w1 ⟨i, rfl, hi, ht, k1⟩
  simp only []
  refine pif_of (fun hlt => ?_) fun hge => ?_
  · have hlt : i < n := by simpa using hlt
    rw [wrap_nat i (by omega)]
    obtain ⟨y, hyi⟩ := getE (show i < xs.length by omega)
    have kd : Keep None w0 w1.drew := k1.drew
    refine (hx.keep0 (k0.then0 kd)).ix hyi fun a ha => ha.ld ((a2.keep0 kd).ld (eqT y x ?_))
    refine pif_of (fun h => ⟨?_, k0.then0 kd⟩) fun h => ⟨⟨i + 1, rfl, hlt, ?_, kd⟩, by omega⟩
    · have h : y = x := by simpa using h
      rw [decide_eq_true (h ▸ List.mem_of_getElem? hyi)]
    · have h : ¬ y = x := by simpa using h
      rw [List.take_add_one, hyi, List.mem_append]
      simp only [Option.toList_some, List.mem_singleton]
      rintro (h' | h')
      · exact ht h'
      · exact h h'.symm
  · have hge : i = n := by simp at hge; omega
    subst hge
    rw [List.take_of_length_le (by omega)] at ht
    exact ⟨by rw [decide_eq_false ht], k0.then0 k1⟩
end
/-- rising numbers below a bound -/
def RiAt (cs : List Int) (m : Int) (i : Nat) : Prop := ∀ x, cs[i]? = some x → 0 ≤ x ∧ x < m ∧ ∀ y, 0 < i → cs[i - 1]? = some y → y < x
def Ri (cs : List Int) (m : Int) : Prop := ∀ i, RiAt cs m i
theorem rises10 {w : World} {p : Option Addr} {n c : Nat} {cs : List Int} {m : Int} (h : RdL w p n cs) (hn : n ≤ 1099511627776) :
    Calls Try.prog 10 #[.slice p n c, I m] w fun e w' => ∃ b, e = .returned (.bool b) ∧ (b = true ↔ Ri cs m) ∧ Keep None w w' := by
  refine (V10_calls p n c m w (fun r w' => ∃ b, r = .bool b ∧ (b = true ↔ Ri cs m) ∧ Keep None w w') ?_).mono fun e w' ⟨r, he, v, hr, hk⟩ => ⟨v, by rw [he, hr], hk⟩
  unfold V10
  have hl := h.len
  refine lp_of (fun s w1 => ∃ i : Nat, s.1 = (i : Int) ∧ i ≤ n ∧ (∀ j, j < i → RiAt cs m j) ∧ Keep None w w1) (fun s _ => (n - s.1).toNat) ⟨0, rfl, Nat.zero_le _, (fun j hj => by omega), Keep.refl _ _⟩ ?_
  rintro ⟨i', ⟨⟩⟩ w1 ⟨i, rfl, hi, hall, k1⟩
  simp only []
  refine pif_of (fun hlt => ?_) fun hge => ?_
  · have hlt : i < n := by simpa using hlt
    rw [wrap_nat i (by omega)]
    obtain ⟨x, hx⟩ := getE (show i < cs.length by omega)
    have h1 := h.keep0 k1
    refine h1.ix hx fun a ha => ldI_of ha ?_
    have next : RiAt cs m i → (∃ i_1 : Nat, ((i + 1 : Nat) : Int) = (i_1 : Int) ∧ i_1 ≤ n ∧ (∀ j, j < i_1 → RiAt cs m j) ∧ Keep None w w1) ∧ ((n : Int) - ((i + 1 : Nat) : Int)).toNat < ((n : Int) - (i : Int)).toNat := fun hr =>
      ⟨⟨i + 1, rfl, hlt, fun j hj => by
        by_cases hji : j = i
        · subst hji; exact hr
        · exact hall j (by omega), k1⟩, by omega⟩
    by_cases hb : x < 0 ∨ m ≤ x
    · have e1 : cond (decide (x < 0)) true (decide (x ≥ m)) = true := by
        rcases hb with hb | hb
        · rw [decide_eq_true hb]; rfl
        · by_cases h0 : x < 0
          · rw [decide_eq_true h0]; rfl
          · rw [decide_eq_false h0, decide_eq_true (show x ≥ m from hb)]; rfl
      rw [e1]
      refine gd_f rfl (gd_f rfl (pif_t rfl ⟨false, rfl, ⟨(fun h => by cases h), fun hr => ?_⟩, k1⟩))
      have := hr i x hx
      omega
    · have h0 : ¬ x < 0 := fun h => hb (Or.inl h)
      have hm : ¬ x ≥ m := fun h => hb (Or.inr h)
      have e1 : cond (decide (x < 0)) true (decide (x ≥ m)) = false := by rw [decide_eq_false h0, decide_eq_false hm]; rfl
      rw [e1]
      by_cases hi0 : 0 < i
      · have e2 : decide ((i : Int) > 0) = true := by simpa using hi0
        rw [e2]
        obtain ⟨y, hy⟩ := getE (show i - 1 < cs.length by omega)
        rw [wrap_dec i (by omega) hi0]
        refine gd_t rfl (h1.ix hy fun a' ha' => gd_t rfl (ldI_of ha' ?_))
        refine pif_of (fun hc => ⟨false, rfl, ⟨(fun h => by cases h), fun hr => ?_⟩, k1⟩) fun hc => next ?_
        · have hc : x ≤ y := by simpa using hc
          have := (hr i x hx).2.2 y hi0 hy
          omega
        · have hc : y < x := by simpa using hc
          intro x' hx'
          rw [hx] at hx'; injection hx' with hx'; subst hx'
          refine ⟨by omega, by omega, fun y' _ hy' => ?_⟩
          rw [hy] at hy'; injection hy' with hy'; subst hy'
          exact hc
      · have e2 : decide ((i : Int) > 0) = false := by simp; omega
        rw [e2]
        refine gd_f rfl (gd_f rfl (pif_f rfl (next fun x' hx' => ?_)))
        rw [hx] at hx'; injection hx' with hx'; subst hx'
        exact ⟨by omega, by omega, fun y' h => absurd h hi0⟩
  · have hge : i = n := by simp at hge; omega
    subst hge
    refine ⟨true, rfl, ⟨fun _ j => ?_, fun _ => rfl⟩, k1⟩
    by_cases hj : j < i
    · exact hall j hj
    · intro x hx
      have := (List.getElem?_eq_some_iff.1 hx).1
      omega
theorem rising13 {w : World} {p : Option Addr} {n c : Nat} {cs : List Int} {m : Int} (h : RdL w p n cs) (hn : n ≤ 1099511627776) :
    Calls Try.prog 13 #[.slice p n c, I m] w fun e w' => ∃ b, e = .returned (.bool b) ∧ (b = true ↔ Ri cs m) ∧ Keep None w w' := by
  refine (V13_calls p n c m w (fun r w' => ∃ b, r = .bool b ∧ (b = true ↔ Ri cs m) ∧ Keep None w w') ?_).mono fun e w' ⟨r, he, v, hr, hk⟩ => ⟨v, by rw [he, hr], hk⟩
  unfold V13
  have hl := h.len
  refine lp_of (fun s w1 => ∃ i : Nat, s.1 = (i : Int) ∧ i ≤ n ∧ (∀ j, j < i → RiAt cs m j) ∧ Keep None w w1) (fun s _ => (n - s.1).toNat) ⟨0, rfl, Nat.zero_le _, (fun j hj => by omega), Keep.refl _ _⟩ ?_
  rintro ⟨i', ⟨⟩⟩ w1 ⟨i, rfl, hi, hall, k1⟩
  simp only []
  refine pif_of (fun hlt => ?_) fun hge => ?_
  · have hlt : i < n := by simpa using hlt
    rw [wrap_nat i (by omega)]
    obtain ⟨x, hx⟩ := getE (show i < cs.length by omega)
    have k1 : Keep None w w1.drew := k1.drew
    generalize w1.drew = w1 at *
    have h1 := h.keep0 k1
    refine h1.ix hx fun a ha => ldI_of ha ?_
    have next : RiAt cs m i → (∃ i_1 : Nat, ((i + 1 : Nat) : Int) = (i_1 : Int) ∧ i_1 ≤ n ∧ (∀ j, j < i_1 → RiAt cs m j) ∧ Keep None w w1) ∧ ((n : Int) - ((i + 1 : Nat) : Int)).toNat < ((n : Int) - (i : Int)).toNat := fun hr =>
      ⟨⟨i + 1, rfl, hlt, fun j hj => by
        by_cases hji : j = i
        · subst hji; exact hr
        · exact hall j (by omega), k1⟩, by omega⟩
    by_cases h0 : x < 0
    · have e0 : decide (x < 0) = true := by simpa using h0
      rw [e0]
      refine gd_f rfl (gd_f rfl ?_)
      refine gd_f rfl (gd_f rfl (gd_f rfl (gd_f rfl (pif_t rfl ⟨false, rfl, ⟨(fun h => by cases h), fun hr => ?_⟩, k1⟩))))
      have := (hr i x hx).1
      omega
    have e0 : decide (x < 0) = false := by simpa using h0
    rw [e0]
    refine gd_t rfl (h1.ix hx fun a ha => gd_t rfl (ldI_of ha ?_))
    simp only []
    by_cases hm : m ≤ x
    · have e1 : decide (x ≥ m) = true := by simpa using hm
      rw [e1]
      refine gd_f rfl (gd_f rfl (gd_f rfl (gd_f rfl (pif_t rfl ⟨false, rfl, ⟨(fun h => by cases h), fun hr => ?_⟩, k1⟩))))
      have := (hr i x hx).2.1
      omega
    have e1 : decide (x ≥ m) = false := by simpa using hm
    rw [e1]
    by_cases hi0 : 0 < i
    · have e2 : decide ((i : Int) > 0) = true := by simpa using hi0
      rw [e2]
      obtain ⟨y, hy⟩ := getE (show i - 1 < cs.length by omega)
      rw [wrap_dec i (by omega) hi0]
      refine gd_t rfl (h1.ix hx fun a ha => gd_t rfl (ldI_of ha ?_))
      refine gd_t rfl (h1.ix hy fun a' ha' => gd_t rfl (ldI_of ha' ?_))
      refine pif_of (fun hc => ⟨false, rfl, ⟨(fun h => by cases h), fun hr => ?_⟩, k1⟩) fun hc => next ?_
      · have hc : x ≤ y := by simpa using hc
        have := (hr i x hx).2.2 y hi0 hy
        omega
      · have hc : y < x := by simpa using hc
        intro x' hx'
        rw [hx] at hx'; injection hx' with hx'; subst hx'
        refine ⟨by omega, by omega, fun y' _ hy' => ?_⟩
        rw [hy] at hy'; injection hy' with hy'; subst hy'
        exact hc
    · have e2 : decide ((i : Int) > 0) = false := by simp; omega
      rw [e2]
      refine gd_f rfl (gd_f rfl (gd_f rfl (gd_f rfl (pif_f rfl (next fun x' hx' => ?_)))))
      rw [hx] at hx'; injection hx' with hx'; subst hx'
      exact ⟨by omega, by omega, fun y' h => absurd h hi0⟩
  · have hge : i = n := by simp at hge; omega
    subst hge
    refine ⟨true, rfl, ⟨fun _ j => ?_, fun _ => rfl⟩, k1⟩
    by_cases hj : j < i
    · exact hall j hj
    · intro x hx
      have := (List.getElem?_eq_some_iff.1 hx).1
      omega
end Go.Proofs.Ytglhgmgegabinaa.Ex
