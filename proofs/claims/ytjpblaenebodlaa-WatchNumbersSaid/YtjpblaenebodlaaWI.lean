/- Watch: all that is found; its walk. -/
import Derived.Test.YtjpblaenebodlaaWH
set_option linter.unusedVariables false
set_option linter.unusedSimpArgs false
set_option linter.unusedSectionVars false
set_option maxRecDepth 100000
namespace Go.Proofs.Ytjpblaenebodlaa.Wt
open Go Go.Proofs.Ytjpblaenebodlaa.Vc Go.Proofs.Ytjpblaenebodlaa.T
open Go.Proofs.Ytjpblaenebodlaa.Apart (RdL own_rdl wrap_nat getE own_len copy same take_snoc Sl sv New)
open Go.Proofs.Ytjpblaenebodlaa.Lits (fl fl_iff idx idx_inj idx_range Ans ans_of indexP formedP)

theorem VInv.and {l : Int} {P : List Nat → WS → List Nat → Bool → Prop} {F : WS → Prop} (h : VInv l P) (h1 : ∀ S H ls, F S → F { S with H := H, ls := ls }) (h2 : ∀ S x, F S → F { S with tr := S.tr ++ [x] }) : VInv l fun rem S st ok => P rem S st ok ∧ F S where
  wf := fun hp => h.wf hp.1
  att := fun hp => h.att hp.1
  skip := fun hp => ⟨h.skip hp.1, hp.2⟩
  mv := fun hp a1 a2 a3 a4 a5 a6 => ⟨h.mv hp.1 a1 a2 a3 a4 a5 a6, h1 _ _ _ hp.2⟩
  one := fun hp a1 a2 => ⟨h.one hp.1 a1 a2, hp.2⟩
  bad := fun hp a1 a2 a3 => ⟨h.bad hp.1 a1 a2 a3, hp.2⟩
  put := fun hp a1 a2 a3 => ⟨h.put hp.1 a1 a2 a3, h2 _ _ hp.2⟩
/-- what a Run's steps leave as it was -/
structure Fr (S0 S : WS) : Prop where
  nv : S.nv = S0.nv
  st : S.st = S0.st
  lo : S.lo = S0.lo
  rest : S.rest = S0.rest
  clash : S.clash = S0.clash
  pre : S0.tr <+: S.tr
theorem Fr.refl (S : WS) : Fr S S := ⟨rfl, rfl, rfl, rfl, rfl, List.prefix_refl _⟩
theorem Fr.put {S0 S : WS} (h : Fr S0 S) (x : Int) : Fr S0 { S with tr := S.tr ++ [x] } := ⟨h.nv, h.st, h.lo, h.rest, h.clash, h.pre.trans (List.prefix_append _ _)⟩
section
variable {C : List (List Int)} {S : WS} {hd0 sz0 : Nat} {pend : Nat → Int → Prop}
/-- one literal more is gone through -/
theorem Iv.bump (h : Iv C S hd0 sz0 fun _ _ => False) {l : Int} (hl : S.tr[S.hd]? = some (-l)) {ids : List Nat} (hids : S.ls[idxN l]? = some ids) : Iv C { S with hd := S.hd + 1, ls := S.ls.set (idxN l) (ids ++ []) } hd0 sz0 fun h a => a = l ∧ (true = false ∨ h ∈ ids) := by
  have e : S.ls.set (idxN l) (ids ++ []) = S.ls := by
    rw [List.append_nil]
    apply List.ext_getElem?
    intro j
    by_cases hj : j = idxN l
    · subst hj
      rw [List.getElem?_set_self (List.getElem?_eq_some_iff.1 hids).1, hids]
    · rw [List.getElem?_set_ne (fun e => hj e.symm)]
  rw [e]
  have hlt := (List.getElem?_eq_some_iff.1 hl).1
  refine ⟨⟨h.wf.nvb, h.wf.cons, h.wf.nd, h.wf.wi, h.wf.trl, h.wf.hel, h.wf.lsl, h.wf.lol⟩, hlt, h.st0, Nat.le_trans h.hd0l (Nat.le_succ _), h.sz0g, h.sz0l, h.w1, h.w3, fun i h' L u v hi hH a b hab p hp1 hp2 => ?_, h.dm, h.cov, h.src, h.cl, h.lop⟩
  have hp2' : p < S.hd + 1 := hp2
  by_cases hp : p < S.hd
  · rcases h.w4 i h' L u v hi hH a b hab p hp1 hp with hq | hq
    · exact hq.elim
    · exact Or.inr hq
  · have : p = S.hd := by omega
    subst this
    have hp1' : S.tr[S.hd]? = some (-a) := hp1
    rw [hl] at hp1'
    injection hp1' with e1
    have ea : a = l := by omega
    refine Or.inl ⟨ea, Or.inr ?_⟩
    obtain ⟨L', u', v', hH', _, _, _, _, h1, h2⟩ := h.w1 i h' hi
    rw [hH] at hH'
    simp only [Option.some.injEq, Prod.mk.injEq] at hH'
    obtain ⟨rfl, rfl, rfl⟩ := hH'
    subst ea
    have hin : hIn S.ls (idxN a) h' := by
      rcases hab with ⟨e, _⟩ | ⟨e, _⟩
      · rw [e]; exact h1
      · rw [e]; exact h2
    obtain ⟨ids', hi1, hi2⟩ := hin
    rw [hids] at hi1
    injection hi1 with hi1
    rw [hi1]; exact hi2
/-- back to where the Run began -/
theorem Iv.back (h : Iv C S hd0 sz0 pend) (hp : ∀ h a, pend h a → ∃ p, S.tr[p]? = some (-a) ∧ hd0 ≤ p) : Iv C { S with tr := S.tr.take sz0, hd := hd0 } hd0 sz0 fun _ _ => False := by
  have hs := h.sz0l
  have hg := h.sz0g
  have hsub : (S.tr.take sz0).Sublist S.tr := List.take_sublist _ _
  have tk : ∀ {p : Nat} {x : Int}, (S.tr.take sz0)[p]? = some x → S.tr[p]? = some x ∧ p < sz0 := fun {p x} hh => by
    have := (List.getElem?_eq_some_iff.1 hh).1
    rw [List.length_take] at this
    rw [List.getElem?_take, if_pos (by omega)] at hh
    exact ⟨hh, by omega⟩
  have kt : ∀ {p : Nat} {x : Int}, S.tr[p]? = some x → p < sz0 → (S.tr.take sz0)[p]? = some x := fun {p x} hh hlt => by rw [List.getElem?_take, if_pos hlt]; exact hh
  refine ⟨⟨h.wf.nvb, fun l hl hl' => h.wf.cons l (hsub.subset hl) (hsub.subset hl'), hsub.nodup h.wf.nd, fun l hl => h.wf.wi l (hsub.subset hl), Nat.le_trans hsub.length_le h.wf.trl, h.wf.hel, h.wf.lsl, h.wf.lol⟩, by show hd0 ≤ (S.tr.take sz0).length; rw [List.length_take]; omega, h.st0, Nat.le_refl _, hg, by show sz0 ≤ (S.tr.take sz0).length; rw [List.length_take]; omega, h.w1, h.w3,
    fun i h' L u v hi hH a b hab p hp1 hp2 => ?_, h.dm, fun c hc => ?_, h.src, h.cl, h.lop⟩
  · have hp2' : p < hd0 := hp2
    obtain ⟨hp1', _⟩ := tk hp1
    rcases h.w4 i h' L u v hi hH a b hab p hp1' (by have := h.hd0l; omega) with hq | ⟨q, hq1, hq2, hq3⟩
    · obtain ⟨p', hp', hge⟩ := hp h' a hq
      have := pos_uniq h.wf.nd hp1' hp'
      omega
    · exact Or.inr ⟨q, kt hq1 (hq3 hp2'), hq2, hq3⟩
  · rcases h.cov c hc with hq | hq | ⟨x, hx, q, hq1, hq2⟩
    · exact Or.inl hq
    · exact Or.inr (Or.inl hq)
    · exact Or.inr (Or.inr ⟨x, hx, q, kt hq1 hq2.2, hq2⟩)
end
end Go.Proofs.Ytjpblaenebodlaa.Wt
