/- Watch, in plain: what follows from clauses; what holds of a Watch. -/
import Derived.Test.YtjpblaenebodlaaWF
set_option linter.unusedVariables false
set_option linter.unusedSimpArgs false
set_option linter.unusedSectionVars false
set_option maxRecDepth 100000
namespace Go.Proofs.Ytjpblaenebodlaa.Wt
open Go Go.Proofs.Ytjpblaenebodlaa.Vc

/-- what follows from clauses and facts, one unit at a time -/
inductive Der (C : List (List Int)) (K : List Int) : Int → Prop
  | fact {l : Int} : l ∈ K → Der C K l
  | unit {c : List Int} {l : Int} : c ∈ C → l ∈ c → (∀ x ∈ c, x ≠ l → Der C K (-x)) → Der C K l
/-- a clause that is false -/
def Clash (C : List (List Int)) (K : List Int) : Prop := ∃ c ∈ C, ∀ x ∈ c, Der C K (-x)
def hIn (ls : List (List Nat)) (i h : Nat) : Prop := ∃ ids, ls[i]? = some ids ∧ h ∈ ids
/-- q's depth is not greater than p's -/
def Lq (st : List Nat) (p q : Nat) : Prop := ∀ s ∈ st, s ≤ q → s ≤ p
def cap : Nat := 8796093022208
/-- a Watch within a Run that began with hd0 gone through of sz0 literals; pend: watches that are not seen to yet -/
structure Iv (C : List (List Int)) (S : WS) (hd0 sz0 : Nat) (pend : Nat → Int → Prop) : Prop where
  wf : Wf S
  hdl : S.hd ≤ S.tr.length
  st0 : ∀ s ∈ S.st, s ≤ hd0
  hd0l : hd0 ≤ S.hd
  sz0g : hd0 ≤ sz0
  sz0l : sz0 ≤ S.tr.length
  w1 : ∀ (i h : Nat), hIn S.ls i h → ∃ L u v, S.H h = some (L, u, v) ∧ u ∈ L ∧ v ∈ L ∧ u ≠ v ∧ (i = idxN u ∨ i = idxN v) ∧ hIn S.ls (idxN u) h ∧ hIn S.ls (idxN v) h
  w3 : ∀ (i : Nat) (ids : List Nat), S.ls[i]? = some ids → ids.Nodup
  w4 : ∀ (i h : Nat) (L : List Int) (u v : Int), hIn S.ls i h → S.H h = some (L, u, v) → ∀ a b : Int, (a = u ∧ b = v ∨ a = v ∧ b = u) → ∀ p : Nat, S.tr[p]? = some (-a) → p < S.hd → pend h a ∨ ∃ q, S.tr[q]? = some b ∧ Lq S.st p q ∧ (p < hd0 → q < sz0)
  dm : ∃ dom : List Nat, dom.length ≤ C.length ∧ ∀ h, S.H h ≠ none → h ∈ dom
  cov : ∀ c ∈ C, (∃ x ∈ c, -x ∈ c) ∨ (∃ h L u v, S.H h = some (L, u, v) ∧ (∀ x, x ∈ L ↔ x ∈ c) ∧ (h ∈ S.lo ∨ hIn S.ls (idxN u) h)) ∨ ∃ x ∈ c, ∃ q, S.tr[q]? = some x ∧ (∀ s ∈ S.st, q < s) ∧ q < sz0
  src : ∀ (h : Nat) (L : List Int) (u v : Int), S.H h = some (L, u, v) → ∃ c ∈ C, ∀ x, x ∈ L ↔ x ∈ c
  cl : C.length ≤ cap
  lop : S.lo.Nodup ∧ ∀ h ∈ S.lo, ∀ i, ¬ hIn S.ls i h
theorem nodup_le {l dom : List Nat} (hn : l.Nodup) (hs : ∀ x ∈ l, x ∈ dom) : l.length ≤ dom.length := by
  induction l generalizing dom with
  | nil => simp
  | cons a l ih =>
    rw [List.nodup_cons] at hn
    have ha := hs a (by simp)
    have := ih (dom := dom.erase a) hn.2 fun x hx => (List.mem_erase_of_ne (fun (e : x = a) => hn.1 (e ▸ hx))).2 (hs x (by simp [hx]))
    rw [List.length_erase_of_mem ha] at this
    have hp : 0 < dom.length := List.length_pos_of_mem ha
    simp only [List.length_cons]
    omega
theorem tr_le {nv : Nat} {tr : List Int} (hc : Cons tr) (hn : tr.Nodup) (hw : ∀ l ∈ tr, Wi nv l) : tr.length ≤ nv := by
  have h1 : (tr.map Int.natAbs).Nodup := by
    rw [List.Nodup, List.pairwise_map]
    refine (List.Pairwise.and_mem.1 hn).imp ?_
    rintro a c ⟨ha, hc', hne⟩ he
    rcases (by omega : a = c ∨ a = -c) with e | e
    · exact hne e
    · exact hc c hc' (e ▸ ha)
  have := nodup_le (dom := (List.range nv).map (· + 1)) h1 fun x hx => by
    obtain ⟨l, hl, rfl⟩ := List.mem_map.1 hx
    obtain ⟨h0, ha, hb⟩ := hw l hl
    exact List.mem_map.2 ⟨l.natAbs - 1, List.mem_range.2 (by omega), by omega⟩
  simpa using this
theorem pos_uniq {tr : List Int} (hn : tr.Nodup) {p q : Nat} {x : Int} (hp : tr[p]? = some x) (hq : tr[q]? = some x) : p = q := by
  obtain ⟨hp1, hp2⟩ := List.getElem?_eq_some_iff.1 hp
  obtain ⟨hq1, hq2⟩ := List.getElem?_eq_some_iff.1 hq
  rcases Nat.lt_trichotomy p q with h | h | h
  · exact absurd (hp2.trans hq2.symm) ((List.pairwise_iff_getElem.1 hn) p q hp1 hq1 h)
  · exact h
  · exact absurd (hq2.trans hp2.symm) ((List.pairwise_iff_getElem.1 hn) q p hq1 hp1 h)
theorem hIn_set {ls : List (List Nat)} {i : Nat} {ids : List Nat} (hi : i < ls.length) (j h : Nat) : hIn (ls.set i ids) j h ↔ (j = i ∧ h ∈ ids) ∨ (j ≠ i ∧ hIn ls j h) := by
  unfold hIn
  by_cases hj : j = i
  · subst hj
    rw [List.getElem?_set_self hi]
    constructor
    · rintro ⟨a, ha, hm⟩; injection ha with ha; subst ha; exact Or.inl ⟨rfl, hm⟩
    · rintro (⟨_, hm⟩ | ⟨hne, _⟩)
      · exact ⟨_, rfl, hm⟩
      · exact absurd rfl hne
  · rw [List.getElem?_set_ne (fun e => hj e.symm)]
    constructor
    · rintro h'; exact Or.inr ⟨hj, h'⟩
    · rintro (⟨e, _⟩ | ⟨_, h'⟩)
      · exact absurd e hj
      · exact h'
theorem hIn_addW {ls : List (List Nat)} {i hb : Nat} (hi : i < ls.length) (j h : Nat) : hIn (addW ls i hb) j h ↔ hIn ls j h ∨ (j = i ∧ h = hb) := by
  have hids : ls[i]? = some ls[i] := List.getElem?_eq_getElem hi
  rw [addW_at hids, hIn_set hi]
  unfold hIn
  by_cases hj : j = i
  · subst hj
    rw [hids]
    constructor
    · rintro (⟨_, hm⟩ | ⟨hne, _⟩)
      · rcases List.mem_append.1 hm with hm | hm
        · exact Or.inl ⟨_, rfl, hm⟩
        · exact Or.inr ⟨rfl, List.mem_singleton.1 hm⟩
      · exact absurd rfl hne
    · rintro (⟨a, ha, hm⟩ | ⟨_, rfl⟩)
      · injection ha with ha; subst ha; exact Or.inl ⟨rfl, List.mem_append.2 (Or.inl hm)⟩
      · exact Or.inl ⟨rfl, by simp⟩
  · constructor
    · rintro (⟨e, _⟩ | ⟨_, h'⟩)
      · exact absurd e hj
      · exact Or.inl h'
    · rintro (h' | ⟨e, _⟩)
      · exact Or.inr ⟨hj, h'⟩
      · exact absurd e hj
theorem Der.mono {C : List (List Int)} {K K' : List Int} (h : ∀ x ∈ K, Der C K' x) {l : Int} (hd : Der C K l) : Der C K' l := by
  induction hd with
  | fact hl => exact h _ hl
  | unit hc hl _ ih => exact Der.unit hc hl ih
/-- at the end of a Run without a clash: what is known is all that follows, and nothing is false -/
theorem closed_all {C : List (List Int)} {K tr : List Int} (hK : ∀ x ∈ K, x ∈ tr) (hc : Cons tr) (hz : ∀ c ∈ C, ∀ x ∈ c, x ≠ 0)
    (hcl : ∀ c ∈ C, (∃ x ∈ c, -x ∈ c) ∨ (∃ x ∈ c, x ∈ tr) ∨ ∃ x ∈ c, ∃ y ∈ c, x ≠ y ∧ -x ∉ tr ∧ -y ∉ tr) : ∀ l, Der C K l → l ∈ tr := by
  intro l hd
  induction hd with
  | fact hl => exact hK _ hl
  | @unit c l hcC hl hu ih =>
    rcases hcl c hcC with ⟨x, hx, hnx⟩ | ⟨x, hx, hxt⟩ | ⟨x, hx, y, hy, hne, hnx, hny⟩
    · by_cases hxl : x = l
      · subst hxl
        have h0 : -x ≠ x := fun e => hz c hcC x hx (by omega)
        have := ih (-x) hnx h0
        rwa [Int.neg_neg] at this
      · by_cases hnl : -x = l
        · have := ih x hx hxl
          rwa [hnl] at this
        · have h1 := ih x hx hxl
          have h2 := ih (-x) hnx hnl
          rw [Int.neg_neg] at h2
          exact absurd h1 (hc x h2)
    · by_cases hxl : x = l
      · exact hxl ▸ hxt
      · exact absurd (ih x hx hxl) (hc x hxt)
    · by_cases hxl : x = l
      · exact absurd (ih y hy (fun e => hne (hxl.trans e.symm))) hny
      · exact absurd (ih x hx hxl) hnx
end Go.Proofs.Ytjpblaenebodlaa.Wt
