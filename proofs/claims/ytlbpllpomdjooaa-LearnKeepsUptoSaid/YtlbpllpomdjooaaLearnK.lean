/- What a clash teaches: levels, the steps back, the answer. -/
import Derived.Test.YtlbpllpomdjooaaLearnH
import Derived.Test.YtlbpllpomdjooaaLits2
set_option linter.unusedVariables false
set_option linter.unusedSimpArgs false
set_option maxRecDepth 100000
namespace Go.Proofs.Ytlbpllpomdjooaa.Learn
open Go Go.Proofs.Ytlbpllpomdjooaa.Vc Go.Proofs.Ytlbpllpomdjooaa.T
open Go.Proofs.Ytlbpllpomdjooaa.Apart (RdL own_rdl wrap_nat getE own_len copy same take_snoc Sl sv)
open Go.Proofs.Ytlbpllpomdjooaa.Lits (Td Srt)

theorem fl_eq (l : Int) : Lits.fl l = fl l := rfl
/-- the level of a literal that is false -/
def lvl (es : List En) (l : Int) : Int := match es.find? (fun x => decide (x.lit = neg l)) with | some x => x.lev | none => 0
section
variable {es : List En}
theorem lit_one (hF : Fm es) {i j : Nat} {x y : En} (hx : es[i]? = some x) (hy : es[j]? = some y) (h : x.lit = y.lit) : i = j :=
  lit_ne hF hx hy (by rw [h])
theorem lvl_of (hF : Fm es) {i : Nat} {x : En} {l : Int} (hx : es[i]? = some x) (hl : x.lit = neg l) : lvl es l = x.lev := by
  unfold lvl
  cases hf : es.find? (fun x => decide (x.lit = neg l)) with
  | none => exact absurd (by simpa using hl) (List.find?_eq_none.1 hf x (List.mem_of_getElem? hx))
  | some y =>
    have hp := List.find?_some hf
    obtain ⟨j, hj⟩ := List.mem_iff_getElem?.1 (List.mem_of_find?_eq_some hf)
    have hp : y.lit = neg l := by simpa using hp
    obtain rfl := lit_one hF hx hj (hl.trans hp.symm)
    rw [hx] at hj; injection hj with hj; rw [hj]
theorem lvl_none {l : Int} (h : ∀ y ∈ es, y.lit ≠ neg l) : lvl es l = 0 := by
  unfold lvl
  rw [List.find?_eq_none.2 fun y hy => by simpa using h y hy]
theorem lev_run (hF : Fm es) (hn : es.length ≤ 1048576) : ∀ (i : Nat) (x : En), es[i]? = some x → 0 ≤ x.lev ∧ x.lev ≤ (i : Int) + 1 ∧ ∀ (j : Nat) (y : En), j ≤ i → es[j]? = some y → y.lev ≤ x.lev := by
  intro i
  induction i with
  | zero =>
    intro x hx
    have h := (hF 0 x hx).2.2.1.1
    have e : lastLev (es.take 0) = 0 := rfl
    rw [e] at h
    have e2 : IntKind.wrap .i64 (0 + 1) = 1 := by decide +kernel
    rw [e2] at h
    refine ⟨by omega, by omega, fun j y hj hy => ?_⟩
    obtain rfl : j = 0 := by omega
    rw [hx] at hy; injection hy with hy; rw [hy]; exact Int.le_refl _
  | succ i ih =>
    intro x hx
    have hi := (List.getElem?_eq_some_iff.1 hx).1
    obtain ⟨z, hz⟩ := getE (show i < es.length by omega)
    obtain ⟨h0, h1, h2⟩ := ih z hz
    have h := (hF (i + 1) x hx).2.2.1.1
    rw [lastLev_snoc hz] at h
    have e2 : IntKind.wrap .i64 (z.lev + 1) = z.lev + 1 := by rw [IntKind.wrap_i64]; omega
    rw [e2] at h
    refine ⟨by omega, by omega, fun j y hj hy => ?_⟩
    rcases Nat.lt_or_ge j (i + 1) with hj2 | hj2
    · have := h2 j y (by omega) hy; omega
    · obtain rfl : j = i + 1 := by omega
      rw [hx] at hy; injection hy with hy; rw [hy]; exact Int.le_refl _
/-- the greatest entry of a level whose literal stands -/
structure Gt (es : List En) (top : Int) (S : Int → Prop) (i : Nat) (x : En) : Prop where
  at' : es[i]? = some x
  lev : x.lev = top
  mem : S (neg x.lit)
  last : ∀ (j : Nat) (y : En), i < j → es[j]? = some y → y.lev = top → ¬ S (neg y.lit)
def nxt (S : Int → Prop) (x : En) : Int → Prop := fun l => (S l ∧ l ≠ neg x.lit) ∨ (l ∈ x.rs ∧ l ≠ x.lit)
def Alone (es : List En) (top : Int) (S : Int → Prop) (x : En) : Prop := ∀ l, S l → lvl es l = top → l = neg x.lit
inductive Lrn (es : List En) (top : Int) : (Int → Prop) → Int → (Int → Prop) → Prop
  | done {S : Int → Prop} {i : Nat} {x : En} (h : Gt es top S i x) (ha : Alone es top S x) : Lrn es top S (neg x.lit) S
  | step {S F : Int → Prop} {i : Nat} {x : En} {o : Int} (h : Gt es top S i x) (ha : ¬ Alone es top S x) (hn : Lrn es top (nxt S x) o F) : Lrn es top S o F
theorem Gt.uniq {top : Int} {S : Int → Prop} {i j : Nat} {x y : En} (h : Gt es top S i x) (h' : Gt es top S j y) : x = y := by
  have : i = j := by
    rcases Nat.lt_trichotomy i j with hl | hl | hl
    · exact absurd h'.mem (h.last j y hl h'.at' h'.lev)
    · exact hl
    · exact absurd h.mem (h'.last i x hl h.at' h.lev)
  subst this
  have := h.at'
  rw [h'.at'] at this
  injection this with this
  exact this.symm
theorem Lrn.uniq {top : Int} {S F F' : Int → Prop} {o o' : Int} (h : Lrn es top S o F) (h' : Lrn es top S o' F') : o = o' ∧ F = F' := by
  induction h with
  | done h ha =>
    cases h' with
    | done h2 ha2 => rw [h.uniq h2]; exact ⟨rfl, rfl⟩
    | step h2 ha2 hn => rw [h.uniq h2] at ha; exact absurd ha ha2
  | step h ha hn ih =>
    cases h' with
    | done h2 ha2 => rw [h.uniq h2] at ha; exact absurd ha2 ha
    | step h2 ha2 hn2 => rw [← h.uniq h2] at hn2; exact ih hn2
/-- the greatest of some literals' levels -/
def Mx (es : List En) (M : Int → Prop) (b : Int) : Prop := (∀ l, M l → lvl es l ≤ b) ∧ 0 ≤ b ∧ (b = 0 ∨ ∃ l, M l ∧ lvl es l = b)
theorem Mx.uniq {M M' : Int → Prop} {b b' : Int} (h : Mx es M b) (h' : Mx es M' b') (hm : ∀ l, M l ↔ M' l) : b = b' := by
  obtain ⟨h1, h2, h3⟩ := h
  obtain ⟨g1, g2, g3⟩ := h'
  rcases h3 with rfl | ⟨l, hl, rfl⟩
  · rcases g3 with rfl | ⟨l, hl, rfl⟩
    · rfl
    · have := h1 l ((hm l).2 hl); omega
  · have := g1 l ((hm l).1 hl)
    rcases g3 with rfl | ⟨l', hl', rfl⟩
    · omega
    · have := h1 l' ((hm l').2 hl'); omega
theorem Mx.nil {M : Int → Prop} (h : ∀ l, ¬ M l) : Mx es M 0 := ⟨fun l hl => absurd hl (h l), Int.le_refl _, Or.inl rfl⟩
theorem Mx.add {M M' : Int → Prop} {b : Int} {l : Int} (h : Mx es M b) (hm : ∀ x, M' x ↔ M x ∨ x = l) (h0 : 0 ≤ lvl es l) : Mx es M' (if lvl es l > b then lvl es l else b) := by
  obtain ⟨h1, h2, h3⟩ := h
  split
  · rename_i hg
    refine ⟨fun x hx => ?_, h0, Or.inr ⟨l, (hm l).2 (Or.inr rfl), rfl⟩⟩
    rcases (hm x).1 hx with hx | rfl
    · have := h1 x hx; omega
    · exact Int.le_refl _
  · rename_i hg
    refine ⟨fun x hx => ?_, h2, ?_⟩
    · rcases (hm x).1 hx with hx | rfl
      · exact h1 x hx
      · omega
    · rcases h3 with h | ⟨x, hx, e⟩
      · exact Or.inl h
      · exact Or.inr ⟨x, (hm x).2 (Or.inl hx), e⟩
theorem Mx.same {M M' : Int → Prop} {b : Int} (h : Mx es M b) (hm : ∀ l, M' l ↔ M l) : Mx es M' b :=
  ⟨fun l hl => h.1 l ((hm l).1 hl), h.2.1, h.2.2.imp id fun ⟨l, hl, e⟩ => ⟨l, (hm l).2 hl, e⟩⟩
/-- the answer: the refusal's number, the level to go back to, the clause -/
def LSpec (es : List En) (cs : List Int) (u back : Int) (cl : List Int) : Prop :=
  Askd es cs u ∧ ((u ≠ 0 ∧ cl = [] ∧ back = 0) ∨ (u = 0 ∧ ∃ top, Mx es (· ∈ cs) top ∧ ((top = 0 ∧ cl = [] ∧ back = -1) ∨
    (0 < top ∧ ∃ o F L, Lrn es top (· ∈ cs) o F ∧ Td (fun l => F l ∧ l ≠ o ∧ 0 < lvl es l) L ∧ cl = o :: L ∧ Mx es (· ∈ L) back))))
theorem LSpec.uniq {cs : List Int} {u u' b b' : Int} {cl cl' : List Int} (h : LSpec es cs u b cl) (h' : LSpec es cs u' b' cl') : u = u' ∧ b = b' ∧ cl = cl' := by
  obtain ⟨ha, h⟩ := h
  obtain ⟨ha', h'⟩ := h'
  obtain rfl := ha.unique ha'
  refine ⟨rfl, ?_⟩
  rcases h with ⟨hu, rfl, rfl⟩ | ⟨hu, top, hM, h⟩ <;> rcases h' with ⟨hu', rfl, rfl⟩ | ⟨hu', top', hM', h'⟩
  · exact ⟨rfl, rfl⟩
  · exact absurd hu' hu
  · exact absurd hu hu'
  · obtain rfl := hM.uniq hM' fun l => Iff.rfl
    rcases h with ⟨ht, rfl, rfl⟩ | ⟨ht, o, F, L, hL, hT, rfl, hb⟩ <;> rcases h' with ⟨ht', rfl, rfl⟩ | ⟨ht', o', F', L', hL', hT', rfl, hb'⟩
    · exact ⟨rfl, rfl⟩
    · omega
    · omega
    · obtain ⟨rfl, rfl⟩ := hL.uniq hL'
      obtain rfl := hT.uniq hT' fun l _ => Iff.rfl
      exact ⟨hb.uniq hb' fun l => Iff.rfl, rfl⟩
theorem Lrn.sub {top : Int} {S F : Int → Prop} {o : Int} (hF : Fm es) (hr : ∀ x ∈ es, ∀ l ∈ x.rs, l ≠ x.lit → fl l = true ∧ ∃ y ∈ es, y.lit = neg l) (h : Lrn es top S o F) :
    (∀ l, S l → fl l = true ∧ ∃ y ∈ es, y.lit = neg l) → (∀ l, F l → fl l = true ∧ ∃ y ∈ es, y.lit = neg l) ∧ F o := by
  induction h with
  | done h ha => exact fun hS => ⟨hS, h.mem⟩
  | step h ha hn ih =>
    intro hS
    refine ih fun l hl => ?_
    rcases hl with ⟨hl, _⟩ | ⟨hl, hne⟩
    · exact hS l hl
    · exact hr _ (List.mem_of_getElem? h.at') l hl hne
theorem rs_ok (hF : Fm es) : ∀ x ∈ es, ∀ l ∈ x.rs, l ≠ x.lit → fl l = true ∧ ∃ y ∈ es, y.lit = neg l := by
  intro x hx l hl hne
  obtain ⟨i, hi⟩ := List.mem_iff_getElem?.1 hx
  have hr := (hF i x hi).2.2.2 (fun e => by rw [e] at hl; cases hl)
  obtain ⟨y, hy, e⟩ := hr.2.2 l hl hne
  exact ⟨List.all_eq_true.1 hr.1 l hl, y, (List.take_sublist _ _).subset hy, e⟩
theorem rs_ahead (hF : Fm es) {i : Nat} {x : En} (hx : es[i]? = some x) {l : Int} (hl : l ∈ x.rs) (hne : l ≠ x.lit) : ∃ j y, j < i ∧ es[j]? = some y ∧ y.lit = neg l := by
  have hr := (hF i x hx).2.2.2 (fun e => by rw [e] at hl; cases hl)
  obtain ⟨y, hy, e⟩ := hr.2.2 l hl hne
  obtain ⟨j, hj⟩ := List.mem_iff_getElem?.1 hy
  rw [List.getElem?_take] at hj
  split at hj
  · rename_i h; exact ⟨j, y, h, hj, e⟩
  · cases hj
theorem at_uniq (hF : Fm es) {i : Nat} {x : En} (hx : es[i]? = some x) {j : Nat} {y : En} {l : Int} (hy : es[j]? = some y) (hyl : y.lit = neg l) (hl : neg x.lit = l) : i = j := by
  have f1 := (hF i x hx).1
  exact lit_one hF hx hy (by rw [hyl, ← hl, neg_neg f1])
end
end Go.Proofs.Ytlbpllpomdjooaa.Learn
