/- Watch: clauses attached at rest. -/
import Derived.Test.YtjpblaenebodlaaWJ
set_option linter.unusedVariables false
set_option linter.unusedSimpArgs false
set_option linter.unusedSectionVars false
set_option maxRecDepth 100000
namespace Go.Proofs.Ytjpblaenebodlaa.Wt
open Go Go.Proofs.Ytjpblaenebodlaa.Vc Go.Proofs.Ytjpblaenebodlaa.T
open Go.Proofs.Ytjpblaenebodlaa.Apart (RdL own_rdl wrap_nat getE own_len copy same take_snoc Sl sv New)
open Go.Proofs.Ytjpblaenebodlaa.Lits (fl fl_iff idx idx_inj idx_range Ans ans_of indexP formedP)

section
variable {C : List (List Int)} {S : WS} {hd0 sz0 : Nat} {pend : Nat → Int → Prop}
/-- what a Run leaves is where the next one begins -/
theorem Iv.rebase (h : Iv C S hd0 sz0 fun _ _ => False) : Iv C S S.hd S.tr.length fun _ _ => False :=
  ⟨h.wf, h.hdl, fun s hs => Nat.le_trans (h.st0 s hs) h.hd0l, Nat.le_refl _, h.hdl, Nat.le_refl _, h.w1, h.w3, fun i h' L u v hi hH a b hab p hp1 hp2 => by
    rcases h.w4 i h' L u v hi hH a b hab p hp1 hp2 with hq | ⟨q, hq1, hq2, _⟩
    · exact hq.elim
    · exact Or.inr ⟨q, hq1, hq2, fun _ => (List.getElem?_eq_some_iff.1 hq1).1⟩, h.dm, fun c hc => by
    rcases h.cov c hc with hq | hq | ⟨x, hx, q, hq1, hq2, _⟩
    · exact Or.inl hq
    · exact Or.inr (Or.inl hq)
    · exact Or.inr (Or.inr ⟨x, hx, q, hq1, hq2, (List.getElem?_eq_some_iff.1 hq1).1⟩), h.src, h.cl, h.lop⟩
/-- a clause that watches two literals that aren't false -/
theorem Iv.att (h : Iv C S hd0 sz0 fun _ _ => False) {hb : Nat} {L : List Int} {u0 v0 u v : Int} (hH : S.H hb = some (L, u0, v0)) (hu : u ∈ L) (hv : v ∈ L) (hne : u ≠ v) (hlu : 0 ≤ lv S.tr u) (hlv : 0 ≤ lv S.tr v) (hno : ∀ i, ¬ hIn S.ls i hb) (hll : S.ls.length = 2 * S.nv) {lo' : List Nat} (hl1 : lo'.Nodup) (hl2 : ∀ y ∈ lo', y ∈ S.lo) (hl3 : ∀ y ∈ S.lo, y = hb ∨ y ∈ lo') (hlo : hb ∉ lo') :
    Iv C { S with lo := lo', H := upd S.H hb (L, u, v), ls := addW (addW S.ls (idxN u) hb) (idxN v) hb } hd0 sz0 fun _ _ => False := by
  obtain ⟨hw, hLn, hLl⟩ := h.wf.hel hb L u0 v0 hH
  have hnv := h.wf.nvb
  have lu : idxN u < S.ls.length := by rw [hll]; exact idxN_lt (hw u hu)
  have lv' : idxN v < (addW S.ls (idxN u) hb).length := by rw [addW_len, hll]; exact idxN_lt (hw v hv)
  have huv : idxN u ≠ idxN v := fun e => hne (idxN_inj hnv (hw u hu) (hw v hv) e)
  have hin : ∀ j h', hIn (addW (addW S.ls (idxN u) hb) (idxN v) hb) j h' ↔ hIn S.ls j h' ∨ ((j = idxN u ∨ j = idxN v) ∧ h' = hb) := fun j h' => by
    rw [hIn_addW lv', hIn_addW lu]
    constructor
    · rintro ((h | ⟨a, b⟩) | ⟨a, b⟩)
      · exact Or.inl h
      · exact Or.inr ⟨Or.inl a, b⟩
      · exact Or.inr ⟨Or.inr a, b⟩
    · rintro (h | ⟨a | a, b⟩)
      · exact Or.inl (Or.inl h)
      · exact Or.inl (Or.inr ⟨a, b⟩)
      · exact Or.inr ⟨a, b⟩
  have Hh : upd S.H hb (L, u, v) hb = some (L, u, v) := if_pos rfl
  have Ho : ∀ {h' : Nat}, h' ≠ hb → upd S.H hb (L, u, v) h' = S.H h' := fun hne' => if_neg hne'
  have w1' : ∀ (i h' : Nat), hIn (addW (addW S.ls (idxN u) hb) (idxN v) hb) i h' → ∃ L' u' v', upd S.H hb (L, u, v) h' = some (L', u', v') ∧ u' ∈ L' ∧ v' ∈ L' ∧ u' ≠ v' ∧ (i = idxN u' ∨ i = idxN v') ∧ hIn (addW (addW S.ls (idxN u) hb) (idxN v) hb) (idxN u') h' ∧ hIn (addW (addW S.ls (idxN u) hb) (idxN v) hb) (idxN v') h' := fun i h' hi => by
    rcases (hin i h').1 hi with hi1 | ⟨hi2, rfl⟩
    · have hnb : h' ≠ hb := fun e => hno i (e ▸ hi1)
      obtain ⟨L2, u2, v2, q1, q2, q3, q4, q5, q6, q7⟩ := h.w1 i h' hi1
      exact ⟨L2, u2, v2, (Ho hnb).trans q1, q2, q3, q4, q5, (hin _ _).2 (Or.inl q6), (hin _ _).2 (Or.inl q7)⟩
    · exact ⟨L, u, v, Hh, hu, hv, hne, hi2, (hin _ _).2 (Or.inr ⟨Or.inl rfl, rfl⟩), (hin _ _).2 (Or.inr ⟨Or.inr rfl, rfl⟩)⟩
  have nodA : ∀ {ls : List (List Nat)} {k : Nat}, (∀ (i : Nat) (ids : List Nat), ls[i]? = some ids → ids.Nodup) → k < ls.length → ¬ hIn ls k hb → ∀ (i : Nat) (ids : List Nat), (addW ls k hb)[i]? = some ids → ids.Nodup := fun {ls k} hn hk hnot i ids hi => by
    have hids : ls[k]? = some ls[k] := List.getElem?_eq_getElem hk
    rw [addW_at hids] at hi
    by_cases hik : i = k
    · subst hik
      rw [List.getElem?_set_self hk] at hi
      injection hi with hi; subst hi
      refine List.nodup_append.2 ⟨hn _ _ hids, by simp, fun y hy z hz => ?_⟩
      rw [List.mem_singleton.1 hz]
      rintro rfl
      exact hnot ⟨_, hids, hy⟩
    · rw [List.getElem?_set_ne (fun e => hik e.symm)] at hi
      exact hn i ids hi
  have w3' := nodA (nodA h.w3 lu (hno _)) lv' (fun hh => by
    rcases (hIn_addW lu _ _).1 hh with h1 | ⟨h1, _⟩
    · exact hno _ h1
    · exact huv h1.symm)
  have dm' : ∃ dom : List Nat, dom.length ≤ C.length ∧ ∀ h', upd S.H hb (L, u, v) h' ≠ none → h' ∈ dom := by
    obtain ⟨dom, hd, hm⟩ := h.dm
    refine ⟨dom, hd, fun h' hh => hm h' ?_⟩
    by_cases hhh : h' = hb
    · subst hhh; rw [hH]; simp
    · rwa [Ho hhh] at hh
  have lens : ∀ (i : Nat) (ids' : List Nat), (addW (addW S.ls (idxN u) hb) (idxN v) hb)[i]? = some ids' → ids'.length ≤ cap := fun i ids' hi => by
    obtain ⟨dom, hd, hm⟩ := dm'
    refine Nat.le_trans (nodup_le (w3' i ids' hi) fun y hy => hm y ?_) (Nat.le_trans hd h.cl)
    obtain ⟨L2, u2, v2, q1, _⟩ := w1' i y ⟨ids', hi, hy⟩
    rw [q1]; simp
  have nofalse : ∀ {x : Int}, 0 ≤ lv S.tr x → ∀ p : Nat, S.tr[p]? ≠ some (-x) := fun {x} hx p hp => by
    have := (lv_no h.wf.cons).2 (List.mem_of_getElem? hp)
    omega
  refine ⟨⟨hnv, h.wf.cons, h.wf.nd, h.wf.wi, h.wf.trl, fun h' L2 u2 v2 hH2 => ?_, fun i ids' hi => ⟨Nat.le_trans (lens i ids' hi) (by decide), fun y hy => ?_⟩, Nat.le_trans (nodup_le hl1 hl2) h.wf.lol.1, fun y hy => ?_⟩, h.hdl, h.st0, h.hd0l, h.sz0g, h.sz0l, w1', w3', fun i h' L2 u2 v2 hi hH2 a b hab p hp1 hp2 => ?_, dm', fun c hc => ?_, fun h' L2 u2 v2 hH2 => ?_, h.cl, hl1, fun y hy j hj => ?_⟩
  · have hH2' : upd S.H hb (L, u, v) h' = some (L2, u2, v2) := hH2
    by_cases hhh : h' = hb
    · subst hhh
      rw [Hh] at hH2'
      simp only [Option.some.injEq, Prod.mk.injEq] at hH2'
      obtain ⟨rfl, rfl, rfl⟩ := hH2'
      exact ⟨hw, hLn, hLl⟩
    · rw [Ho hhh] at hH2'; exact h.wf.hel h' L2 u2 v2 hH2'
  · obtain ⟨L2, u2, v2, q1, q2, q3, _⟩ := w1' i y ⟨ids', hi, hy⟩
    exact ⟨L2, u2, v2, q1, q2, q3⟩
  · obtain ⟨L2, u2, v2, q⟩ := h.wf.lol.2 y (hl2 y hy)
    by_cases hyh : y = hb
    · subst hyh; exact ⟨_, _, _, Hh⟩
    · exact ⟨L2, u2, v2, (Ho hyh).trans q⟩
  · have hH2' : upd S.H hb (L, u, v) h' = some (L2, u2, v2) := hH2
    have hp1' : S.tr[p]? = some (-a) := hp1
    by_cases hhh : h' = hb
    · subst hhh
      rw [Hh] at hH2'
      simp only [Option.some.injEq, Prod.mk.injEq] at hH2'
      obtain ⟨rfl, rfl, rfl⟩ := hH2'
      exfalso
      rcases hab with ⟨rfl, _⟩ | ⟨rfl, _⟩
      · exact nofalse hlu p hp1'
      · exact nofalse hlv p hp1'
    · rw [Ho hhh] at hH2'
      have hi' : hIn S.ls i h' := by
        rcases (hin i h').1 hi with hi | ⟨_, e⟩
        · exact hi
        · exact absurd e hhh
      exact h.w4 i h' L2 u2 v2 hi' hH2' a b hab p hp1' hp2
  · rcases h.cov c hc with hq | ⟨h', L2, u2, v2, q1, q2, q3⟩ | hq
    · exact Or.inl hq
    · by_cases hhh : h' = hb
      · subst hhh
        rw [hH] at q1
        simp only [Option.some.injEq, Prod.mk.injEq] at q1
        obtain ⟨rfl, rfl, rfl⟩ := q1
        exact Or.inr (Or.inl ⟨h', L, u, v, Hh, q2, Or.inr ((hin _ _).2 (Or.inr ⟨Or.inl rfl, rfl⟩))⟩)
      · exact Or.inr (Or.inl ⟨h', L2, u2, v2, (Ho hhh).trans q1, q2, q3.imp (fun q => (hl3 _ q).resolve_left hhh) fun q => (hin _ _).2 (Or.inl q)⟩)
    · exact Or.inr (Or.inr hq)
  · have hH2' : upd S.H hb (L, u, v) h' = some (L2, u2, v2) := hH2
    by_cases hhh : h' = hb
    · subst hhh
      rw [Hh] at hH2'
      simp only [Option.some.injEq, Prod.mk.injEq] at hH2'
      obtain ⟨rfl, rfl, rfl⟩ := hH2'
      exact h.src h' L u0 v0 hH
    · rw [Ho hhh] at hH2'; exact h.src h' L2 u2 v2 hH2'
  · rcases (hin j y).1 hj with hj | ⟨_, e⟩
    · exact h.lop.2 y (hl2 y hy) j hj
    · exact hlo (e ▸ hy)
end
end Go.Proofs.Ytjpblaenebodlaa.Wt
