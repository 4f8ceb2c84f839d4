/- Entries in memory; literals, places and reasons. -/
import Derived.Test.YtlbpllpomdjooaaCopy
import Derived.Test.YtlbpllpomdjooaaVcM
set_option linter.unusedVariables false
set_option linter.unusedSimpArgs false
set_option maxRecDepth 100000
namespace Go.Proofs.Ytlbpllpomdjooaa.Learn
open Go Go.Proofs.Ytlbpllpomdjooaa.Vc Go.Proofs.Ytlbpllpomdjooaa.T
open Go.Proofs.Ytlbpllpomdjooaa.Apart (RdL own_rdl wrap_nat getE own_len copy same take_snoc Sl sv)

abbrev I (n : Int) : Value := .int .i64 n
abbrev i64 (x : Int) : Prop := -9223372036854775808 ≤ x ∧ x ≤ 9223372036854775807
def neg (x : Int) : Int := IntKind.wrap .i64 (0 - x)
/-- an entry -/
structure En where
  lit : Int
  lev : Int
  rs : List Int
/-- entries wherever they lie -/
structure RdE (w : World) (p : Option Addr) (n : Nat) (es : List En) : Prop where
  len : es.length = n
  cell : ∀ (i : Nat) (x : En), es[i]? = some x → ∃ a q rn rc, p = some a ∧ w.cell? ((a.add (i * 3)).add 0) = some (I x.lit) ∧ w.cell? ((a.add (i * 3)).add 1) = some (I x.lev) ∧ w.cell? ((a.add (i * 3)).add 2) = some (.slice q rn rc) ∧ RdL w q rn x.rs
/-- an entry's own cells -/
def At (w : World) (a : Addr) (x : En) : Prop := ∃ q rn rc, w.cell? (a.add 0) = some (I x.lit) ∧ w.cell? (a.add 1) = some (I x.lev) ∧ w.cell? (a.add 2) = some (.slice q rn rc) ∧ RdL w q rn x.rs
section
variable {w w' : World} {p : Option Addr} {n c : Nat} {es : List En}
theorem RdE.keep0 (h : RdE w p n es) (hk : Keep None w w') : RdE w' p n es := ⟨h.len, fun i x hx => by
  obtain ⟨a, q, rn, rc, e, c0, c1, c2, hr⟩ := h.cell i x hx
  exact ⟨a, q, rn, rc, e, hk.cell c0 fun h => h, hk.cell c1 fun h => h, hk.cell c2 fun h => h, hr.keep0 hk⟩⟩
theorem RdE.take (h : RdE w p n es) {m : Nat} (hm : m ≤ n) : RdE w p m (es.take m) := ⟨by have := h.len; simp; omega, fun i x hx => by
  rw [List.getElem?_take] at hx
  split at hx
  · exact h.cell i x hx
  · cases hx⟩
theorem RdE.ix (h : RdE w p n es) {i : Nat} {x : En} (hx : es[i]? = some x) {K : Addr → Prop} (hk : ∀ a, At w a x → K a) : ixA p n (i : Int) 3 K := by
  have hl := h.len
  have hi := (List.getElem?_eq_some_iff.1 hx).1
  obtain ⟨a, q, rn, rc, rfl, c0, c1, c2, hr⟩ := h.cell i x hx
  refine ⟨by omega, by omega, ?_⟩
  show K _
  rw [Int.toNat_natCast]
  exact hk _ ⟨q, rn, rc, c0, c1, c2, hr⟩
theorem At.keep0 {a : Addr} {x : En} (h : At w a x) (hk : Keep None w w') : At w' a x := by
  obtain ⟨q, rn, rc, c0, c1, c2, hr⟩ := h
  exact ⟨q, rn, rc, hk.cell c0 fun h => h, hk.cell c1 fun h => h, hk.cell c2 fun h => h, hr.keep0 hk⟩
/-- a call that answers v and changes nothing that was there -/
def Ans (w : World) (v0 : Value) (v : Value) (w' : World) : Prop := v = v0 ∧ Keep None w w'
theorem ans_of {k : FuncId} {args : Array Value} {v0 : Value} (h : Calls Try.prog k args w fun e w' => ∃ v, e = .returned v ∧ Ans w v0 v w') : Calls Try.prog k args w fun e w' => e = .returned v0 ∧ Keep None w w' :=
  h.mono fun e w' ⟨v, he, hv, hk⟩ => ⟨by rw [he, hv], hk⟩
/-- is it a literal? -/
def fl (l : Int) : Bool := decide (l ≠ 0) && (decide (-1048576 ≤ l) && decide (l ≤ 1048576))
theorem fl_iff {l : Int} : fl l = true ↔ l ≠ 0 ∧ -1048576 ≤ l ∧ l ≤ 1048576 := by
  unfold fl
  simp only [Bool.and_eq_true, decide_eq_true_eq]
theorem fl33 (l : Int) : Calls Try.prog 33 #[I l] w fun e w' => e = .returned (.bool (fl l)) ∧ Keep None w w' := by
  refine ans_of (V33_calls l w (Ans w _) ?_)
  unfold V33
  refine ⟨?_, Keep.refl _ _⟩
  congr 1
  rw [Bool.eq_iff_iff, fl_iff]
  simp [and_assoc]
theorem fl35 (l : Int) : Calls Try.prog 35 #[I l] w fun e w' => e = .returned (.bool (fl l)) ∧ Keep None w w' := by
  refine ans_of (V35_calls l w (Ans w _) ?_)
  unfold V35
  refine ⟨?_, Keep.refl _ _⟩
  congr 1
  rw [Bool.eq_iff_iff, fl_iff]
  by_cases h : (1 ≤ l ∧ l ≤ 1048576)
  · simp [h]; omega
  · have : (cond (decide (l ≥ 1)) (decide (l ≤ 1048576)) false) = false := by
      simp; omega
    rw [this]
    simp
    omega
theorem all_snoc {cs : List Int} {i : Nat} {x : Int} (hx : cs[i]? = some x) : (cs.take (i + 1)).all fl = ((cs.take i).all fl && fl x) := by
  rw [take_snoc hx, List.all_append]
  simp
theorem all_no {cs : List Int} {x : Int} (hx : x ∈ cs) (h : fl x = false) : cs.all fl = false := by
  rw [List.all_eq_false]
  exact ⟨x, hx, by rw [h]; decide⟩
theorem sound39 {cs : List Int} (h : RdL w p n cs) (hn : n ≤ 1099511627776) : Calls Try.prog 39 #[.slice p n c] w fun e w' => e = .returned (.bool (cs.all fl)) ∧ Keep None w w' := by
  refine ans_of (V39_calls p n c w (Ans w _) ?_)
  unfold V39
  have hl := h.len
  refine lp_of (fun s w1 => ∃ i : Nat, s.1 = (i : Int) ∧ i ≤ n ∧ (cs.take i).all fl = true ∧ Keep None w w1) (fun s _ => (n - s.1).toNat) ⟨0, rfl, Nat.zero_le _, rfl, Keep.refl _ _⟩ ?_
  rintro ⟨i', ⟨⟩⟩ w1 ⟨i, rfl, hi, hall, k1⟩
  simp only []
  refine pif_of (fun hlt => ?_) fun hge => ?_
  · have hlt : i < n := by simpa using hlt
    rw [wrap_nat i (by omega)]
    refine (h.keep0 k1).ix hlt fun a x hx ha => ldI_of ha (cl_of ok33 (fl33 x) fun e w2 ⟨he, k2⟩ => ⟨_, he, ?_⟩)
    refine pif_of (fun hb => ⟨?_, k1.then0 k2⟩) fun hb => ?_
    · rw [all_no (List.mem_of_getElem? hx) (by simpa using hb)]
    · exact ⟨⟨i + 1, rfl, hlt, by rw [all_snoc hx, hall]; simpa using hb, k1.then0 k2⟩, by omega⟩
  · have hge : i = n := by simp at hge; omega
    subst hge
    rw [← hl, List.take_length] at hall
    exact ⟨by rw [hall], k1⟩
theorem sound41 {cs : List Int} (h : RdL w p n cs) (hn : n ≤ 1099511627776) : Calls Try.prog 41 #[.slice p n c] w fun e w' => e = .returned (.bool (cs.all fl)) ∧ Keep None w w' := by
  refine ans_of (V41_calls p n c w (Ans w _) ?_)
  unfold V41
  have hl := h.len
  refine lp_of (fun s w1 => ∃ i : Nat, s.1 = (i : Int) ∧ i ≤ n ∧ (cs.take i).all fl = true ∧ Keep None w w1) (fun s _ => (n - s.1).toNat) ⟨0, rfl, Nat.zero_le _, rfl, Keep.refl _ _⟩ ?_
  rintro ⟨i', ⟨⟩⟩ w1 ⟨i, rfl, hi, hall, k1⟩
  simp only []
  refine pif_of (fun hlt => ?_) fun hge => ?_
  · have hlt : i < n := by simpa using hlt
    rw [wrap_nat i (by omega)]
    refine (h.keep0 k1).ix hlt fun a x hx ha => ldI_of ha (cl_of ok35 (fl35 x) fun e w2 ⟨he, k2⟩ => ⟨_, he, ?_⟩)
    refine pif_of (fun hb => ⟨?_, k1.then0 k2⟩) fun hb => ?_
    · rw [all_no (List.mem_of_getElem? hx) (by simpa using hb)]
    · exact ⟨⟨i + 1, rfl, hlt, by rw [all_snoc hx, hall]; simpa using hb, k1.then0 k2⟩, by omega⟩
  · have hge : i = n := by simp at hge; omega
    subst hge
    rw [← hl, List.take_length] at hall
    exact ⟨by rw [hall], k1⟩
theorem has42 {cs : List Int} (h : RdL w p n cs) (hn : n ≤ 1099511627776) (x : Int) : Calls Try.prog 42 #[.slice p n c, I x] w fun e w' => e = .returned (.bool (decide (x ∈ cs))) ∧ Keep None w w' := by
  refine ans_of (V42_calls p n c x w (Ans w _) ?_)
  unfold V42
  have hl := h.len
  refine lp_of (fun s w1 => ∃ i : Nat, s.1 = (i : Int) ∧ i ≤ n ∧ x ∉ cs.take i ∧ Keep None w w1) (fun s _ => (n - s.1).toNat) ⟨0, rfl, Nat.zero_le _, by simp, Keep.refl _ _⟩ ?_
  rintro ⟨i', ⟨⟩⟩ w1 ⟨i, rfl, hi, hno, k1⟩
  simp only []
  refine pif_of (fun hlt => ?_) fun hge => ?_
  · have hlt : i < n := by simpa using hlt
    rw [wrap_nat i (by omega)]
    refine (h.keep0 k1).ix hlt fun a y hy ha => ldI_of ha (pif_of (fun he => ⟨?_, k1⟩) fun he => ?_)
    · have he : y = x := by simpa using he
      subst he
      rw [decide_eq_true (List.mem_of_getElem? hy)]
    · have he : ¬ y = x := by simpa using he
      refine ⟨⟨i + 1, rfl, hlt, ?_, k1⟩, by omega⟩
      rw [take_snoc hy, List.mem_append, List.mem_singleton]
      rintro (hh | hh)
      · exact hno hh
      · exact he hh.symm
  · have hge : i = n := by simp at hge; omega
    subst hge
    rw [← hl, List.take_length] at hno
    exact ⟨by rw [decide_eq_false hno], k1⟩
end
end Go.Proofs.Ytlbpllpomdjooaa.Learn
