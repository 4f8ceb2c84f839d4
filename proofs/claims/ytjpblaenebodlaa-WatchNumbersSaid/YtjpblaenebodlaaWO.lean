/- Watch: a clause more. -/
import Derived.Test.YtjpblaenebodlaaWN
set_option linter.unusedVariables false
set_option linter.unusedSimpArgs false
set_option linter.unusedSectionVars false
set_option maxRecDepth 100000
namespace Go.Proofs.Ytjpblaenebodlaa.Wt
open Go Go.Proofs.Ytjpblaenebodlaa.Vc Go.Proofs.Ytjpblaenebodlaa.T
open Go.Proofs.Ytjpblaenebodlaa.Apart (RdL own_rdl wrap_nat getE own_len copy same take_snoc Sl sv New)
open Go.Proofs.Ytjpblaenebodlaa.Lits (fl fl_iff idx idx_inj idx_range Ans ans_of indexP formedP tidyP Td Srt)

section
variable {C : List (List Int)} {S : WS} {hd0 sz0 : Nat} {pend : Nat → Int → Prop}
theorem Iv.tautC (h : Iv C S hd0 sz0 pend) {c : List Int} (ht : taut c) (hC : C.length + 1 ≤ cap) : Iv (C ++ [c]) S hd0 sz0 pend := by
  refine ⟨h.wf, h.hdl, h.st0, h.hd0l, h.sz0g, h.sz0l, h.w1, h.w3, h.w4, ?_, fun c' hc => ?_, fun h' L u v hH => ?_, by rw [List.length_append]; exact hC, h.lop⟩
  · obtain ⟨dom, hd, hm⟩ := h.dm
    exact ⟨dom, by rw [List.length_append]; omega, hm⟩
  · rcases List.mem_append.1 hc with hc | hc
    · exact h.cov c' hc
    · rw [List.mem_singleton.1 hc]; exact Or.inl ht
  · obtain ⟨c', hc, hcl⟩ := h.src h' L u v hH
    exact ⟨c', List.mem_append_left _ hc, hcl⟩
theorem Iv.more (h : Iv C S hd0 sz0 fun _ _ => False) {hb : Nat} {L c : List Int} (hH : S.H hb = none) (hw : ∀ x ∈ L, Wi S.nv x) (hn : L.Nodup) (hl : L.length ≤ 2097153) (hm : ∀ x, x ∈ L ↔ x ∈ c) (hC : C.length + 1 ≤ cap) :
    Iv (C ++ [c]) { S with H := upd S.H hb (L, 0, 0), lo := S.lo ++ [hb] } hd0 sz0 fun _ _ => False := by
  have Hh : upd S.H hb (L, 0, 0) hb = some (L, 0, 0) := if_pos rfl
  have Ho : ∀ {h' : Nat}, h' ≠ hb → upd S.H hb (L, 0, 0) h' = S.H h' := fun hne' => if_neg hne'
  have ne : ∀ {h' : Nat} {x : List Int × Int × Int}, S.H h' = some x → h' ≠ hb := fun hx e => by rw [e, hH] at hx; cases hx
  have nin : ∀ i, ¬ hIn S.ls i hb := fun i hi => by
    obtain ⟨L', u', v', q, _⟩ := h.w1 i hb hi
    rw [hH] at q; cases q
  have nlo : hb ∉ S.lo := fun hh => by
    obtain ⟨L', u', v', q⟩ := h.wf.lol.2 hb hh
    rw [hH] at q; cases q
  have hlo' : (S.lo ++ [hb]).Nodup := List.nodup_append.2 ⟨h.lop.1, by simp, fun x hx y hy => by
    rw [List.mem_singleton.1 hy]
    rintro rfl
    exact nlo hx⟩
  have dm' : ∃ dom : List Nat, dom.length ≤ (C ++ [c]).length ∧ ∀ h', upd S.H hb (L, 0, 0) h' ≠ none → h' ∈ dom := by
    obtain ⟨dom, hd, hmm⟩ := h.dm
    refine ⟨hb :: dom, by rw [List.length_append]; simp; omega, fun h' hh => ?_⟩
    by_cases hhh : h' = hb
    · rw [hhh]; simp
    · rw [Ho hhh] at hh
      exact List.mem_cons_of_mem _ (hmm h' hh)
  have lo2 : ∀ y ∈ S.lo ++ [hb], ∃ L' u' v', upd S.H hb (L, 0, 0) y = some (L', u', v') := fun y hy => by
    rcases List.mem_append.1 hy with hy | hy
    · obtain ⟨L', u', v', q⟩ := h.wf.lol.2 y hy
      exact ⟨L', u', v', (Ho (ne q)).trans q⟩
    · rw [List.mem_singleton.1 hy]; exact ⟨_, _, _, Hh⟩
  have lol : (S.lo ++ [hb]).length ≤ cap := by
    obtain ⟨dom, hd, hmm⟩ := dm'
    refine Nat.le_trans (nodup_le hlo' fun y hy => hmm y ?_) (Nat.le_trans hd (by rw [List.length_append]; exact hC))
    obtain ⟨L', u', v', q⟩ := lo2 y hy
    rw [q]; simp
  refine ⟨⟨h.wf.nvb, h.wf.cons, h.wf.nd, h.wf.wi, h.wf.trl, fun h' L2 u2 v2 hH2 => ?_, fun i ids hi => ⟨(h.wf.lsl i ids hi).1, fun y hy => ?_⟩, Nat.le_trans lol (by decide), lo2⟩, h.hdl, h.st0, h.hd0l, h.sz0g, h.sz0l, fun i h' hi => ?_, h.w3, fun i h' L2 u2 v2 hi hH2 => ?_, dm', fun c' hc => ?_, fun h' L2 u2 v2 hH2 => ?_, by rw [List.length_append]; exact hC, hlo', fun y hy i => ?_⟩
  · have hH2' : upd S.H hb (L, 0, 0) h' = some (L2, u2, v2) := hH2
    by_cases hhh : h' = hb
    · subst hhh
      rw [Hh] at hH2'
      simp only [Option.some.injEq, Prod.mk.injEq] at hH2'
      obtain ⟨rfl, rfl, rfl⟩ := hH2'
      exact ⟨hw, hn, hl⟩
    · rw [Ho hhh] at hH2'; exact h.wf.hel h' L2 u2 v2 hH2'
  · obtain ⟨L', u', v', q1, q2, q3⟩ := (h.wf.lsl i ids hi).2 y hy
    exact ⟨L', u', v', (Ho (ne q1)).trans q1, q2, q3⟩
  · obtain ⟨L', u', v', q1, q⟩ := h.w1 i h' hi
    exact ⟨L', u', v', (Ho (ne q1)).trans q1, q⟩
  · have hH2' : upd S.H hb (L, 0, 0) h' = some (L2, u2, v2) := hH2
    have hi' : hIn S.ls i h' := hi
    rw [Ho (fun e => nin i (e ▸ hi'))] at hH2'
    exact h.w4 i h' L2 u2 v2 hi' hH2'
  · rcases List.mem_append.1 hc with hc | hc
    · rcases h.cov c' hc with hq | ⟨h', L2, u2, v2, q1, q2, q3⟩ | hq
      · exact Or.inl hq
      · exact Or.inr (Or.inl ⟨h', L2, u2, v2, (Ho (ne q1)).trans q1, q2, q3.imp (fun q => List.mem_append_left _ q) id⟩)
      · exact Or.inr (Or.inr hq)
    · rw [List.mem_singleton.1 hc]
      exact Or.inr (Or.inl ⟨hb, L, 0, 0, Hh, hm, Or.inl (by show hb ∈ S.lo ++ [hb]; simp)⟩)
  · have hH2' : upd S.H hb (L, 0, 0) h' = some (L2, u2, v2) := hH2
    by_cases hhh : h' = hb
    · subst hhh
      rw [Hh] at hH2'
      simp only [Option.some.injEq, Prod.mk.injEq] at hH2'
      obtain ⟨rfl, rfl, rfl⟩ := hH2'
      exact ⟨c, by simp, hm⟩
    · rw [Ho hhh] at hH2'
      obtain ⟨c', hc', hcl⟩ := h.src h' L2 u2 v2 hH2'
      exact ⟨c', List.mem_append_left _ hc', hcl⟩
  · rcases List.mem_append.1 hy with hy | hy
    · exact h.lop.2 y hy i
    · rw [List.mem_singleton.1 hy]; exact nin i
end
section
variable {w w' : World} {b : Nat} {o : Nat → Int} {h : Hs} {S : WS}
/-- a clause's block, new -/
theorem Rp.addH {ex : Nat → Prop} (hR : Rp ex w b o h S) {hb : Nat} {lp : Option Addr} {ln lc : Nat} {L : List Int} {u v : Int} (ho : o hb = -7) (hB : Blk w hb [.slice lp ln lc, I u, I v] 77) (hL : RdL w lp ln L) (hO : ∀ j, ob lp j → o j = -8 ∧ j < w.heap.size) :
    Rp ex w b o h { S with H := upd S.H hb (L, u, v) } :=
  ⟨hR.self, hR.selfO, hR.va, hR.vaO, hR.tr, hR.trO, hR.st, hR.stO, hR.out, hR.outO, hR.hl, hR.ll, hR.inn, hR.innO, hR.lo, hR.loO, fun i L2 u2 v2 hH => by
    have hH' : upd S.H hb (L, u, v) i = some (L2, u2, v2) := hH
    unfold upd at hH'
    by_cases hi : i = hb
    · rw [if_pos hi] at hH'
      simp only [Option.some.injEq, Prod.mk.injEq] at hH'
      obtain ⟨rfl, rfl, rfl⟩ := hH'
      subst hi
      exact ⟨ho, lp, ln, lc, hB, hL, hO⟩
    · rw [if_neg hi] at hH'
      exact hR.hel i L2 u2 v2 hH'⟩
def tLo (t : Int) : Prop := t = -5 ∨ t = -6
/-- one loose clause more -/
theorem pushLo (hR : Rp noEx w b o h S) {hb bb : Nat} (hlen : S.lo.length ≤ 17592186044415) (hB : Blk w bb [Pt hb] 74) {K : World → Prop} (hK : ∀ w', Nx tLo noEx w b o { S with lo := S.lo ++ [hb] } w' → K w') :
    ∃ (p' : Option Addr) (n' c' : Nat), ∃ w' : World, (Builtin.append_ #[62, 62] 62 #[.slice h.ll.1 h.ll.2.1 h.ll.2.2, .slice (some (⟨bb, 0, none⟩ : Addr)) 1 1]).run Try.prog w = .ok (.slice p' n' c') w' ∧
      nn (some ⟨b, 0, none⟩) fun p20 => Vc.st w' ((p20.add 5).add 0) (.slice p' n' c') K := by
  have hO := hR.lo
  have hn := pts_len hO
  refine app_of2 (e := 74) (sz := 1) (z := .pointer none) (B := 8) Try.underlying62 (by kernel_rfl) rfl (by omega) hO hB.news1 (fun u hu => ?_) (by simp only [maxLen]; omega) (by omega) fun p' c' w' hO' hd => ?_
  · simp only [List.mem_singleton] at hu; subst hu; rfl
  have key : ∃ o' : Nat → Int, Ag w o o' ∧ (∀ j, ob p' j → o' j = -5) ∧ Keep (fun j => o j = -5) w w' := by
    rcases hd with ⟨e, _, _, kk⟩ | ⟨e, kk⟩
    · exact ⟨o, Ag.refl _ _, fun j hj => hR.loO j (by rw [e] at hj; exact hj), kk.mono fun j _ hj => hR.loO j hj⟩
    · exact ⟨fun j => if j < w.heap.size then o j else -5, fun j hj => if_pos hj, fun j hj => if_neg (by have := e j hj; omega), kk.none⟩
  obtain ⟨o', ha, hg, kk⟩ := key
  have hR' := hR.reown ha
  have k' : Keep (fun j => (fun t : Int => t = -5) (o' j)) w w' := kk.mono fun j hj hh => by show o' j = -5; rw [ha j hj]; exact hh
  have self' := Rp.selfK (T := fun t => t = -5) hR' k' (by decide)
  refine nn_of ?_
  simp only [add_mk, Nat.zero_add, Nat.add_zero]
  refine st_of self' (by simp) rfl fun w5 hB5 k5 z5 => hK w5 ?_
  have k56 : Keep (fun j => (fun t : Int => tLo t) (o' j)) w w5 := (k'.mono fun j _ hh => Or.inl hh).trans k5 fun j _ hj => Or.inr (by rw [show j = b from hj]; exact hR'.selfO)
  have one : ∀ j, One b j → o' j = -6 := fun j hj => by rw [show j = b from hj]; exact hR'.selfO
  have n5 : ∀ {t : Int}, t ≠ -5 → t ≠ -6 → ¬ tLo t := fun h1 h2 hh => by unfold tLo at hh; omega
  refine ⟨o', { h with ll := (p', h.ll.2.1 + 1, c') }, ⟨hB5, hR'.selfO, Rp.own (T := tLo) hR'.va hR'.vaO k56 (n5 (by decide) (by decide)), hR'.vaO, Rp.own (T := tLo) hR'.tr hR'.trO k56 (n5 (by decide) (by decide)), hR'.trO,
    Rp.own (T := tLo) hR'.st hR'.stO k56 (n5 (by decide) (by decide)), hR'.stO, Rp.own (T := tLo) hR'.out hR'.outO k56 (n5 (by decide) (by decide)), hR'.outO, hR'.hl, hR'.ll, Rp.innK (S := S) (h := h) (T := tLo) hR' k56 (fun t ht => n5 (by omega) (by omega)), Rp.innOK (S := S) (h := h) hR' k56,
    ?_, hg, Rp.helK (S := S) (T := tLo) hR' k56 (n5 (by decide) (by decide)) (n5 (by decide) (by decide))⟩, ha, ?_⟩
  · show Own w5 74 1 p' (h.ll.2.1 + 1) c' ((S.lo ++ [hb]).map Pt)
    rw [List.map_append]
    exact hO'.keep k5 fun j hj hh => by have := hg j hj; have := one j hh; omega
  · exact k56.mono fun j hj hh => by rw [ha j hj] at hh; exact hh
end
end Go.Proofs.Ytjpblaenebodlaa.Wt
