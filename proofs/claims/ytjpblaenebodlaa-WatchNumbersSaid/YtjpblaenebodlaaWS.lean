/- Watch: Assume. -/
import Derived.Test.YtjpblaenebodlaaWR
set_option linter.unusedVariables false
set_option linter.unusedSimpArgs false
set_option linter.unusedSectionVars false
set_option maxRecDepth 100000
namespace Go.Proofs.Ytjpblaenebodlaa.Wt
open Go Go.Proofs.Ytjpblaenebodlaa.Vc Go.Proofs.Ytjpblaenebodlaa.T
open Go.Proofs.Ytjpblaenebodlaa.Apart (RdL own_rdl wrap_nat getE own_len copy same take_snoc Sl sv New)
open Go.Proofs.Ytjpblaenebodlaa.Lits (fl fl_iff idx idx_inj idx_range Ans ans_of indexP formedP tidyP Td Srt)

/-- one depth further -/
theorem Iv.deeper {C : List (List Int)} {S : WS} (h : Iv C S S.hd S.tr.length fun _ _ => False) (hr : S.hd = S.tr.length) : Iv C { S with st := S.st ++ [S.tr.length] } S.hd S.tr.length fun _ _ => False := by
  refine ⟨⟨h.wf.nvb, h.wf.cons, h.wf.nd, h.wf.wi, h.wf.trl, h.wf.hel, h.wf.lsl, h.wf.lol⟩, h.hdl, fun s hs => ?_, h.hd0l, h.sz0g, h.sz0l, h.w1, h.w3, fun i h' L u v hi hH a b hab p hp1 hp2 => ?_, h.dm, fun c hc => ?_, h.src, h.cl, h.lop⟩
  · rcases List.mem_append.1 hs with hs | hs
    · exact h.st0 s hs
    · rw [List.mem_singleton.1 hs]; omega
  · rcases h.w4 i h' L u v hi hH a b hab p hp1 hp2 with hq | ⟨q, hq1, hq2, hq3⟩
    · exact hq.elim
    · refine Or.inr ⟨q, hq1, fun s hs hle => ?_, hq3⟩
      rcases List.mem_append.1 hs with hs | hs
      · exact hq2 s hs hle
      · have := (List.getElem?_eq_some_iff.1 hq1).1
        have e := List.mem_singleton.1 hs
        have this' : q < S.tr.length := this
        omega
  · rcases h.cov c hc with hq | hq | ⟨x, hx, q, hq1, hq2, hq3⟩
    · exact Or.inl hq
    · exact Or.inr (Or.inl hq)
    · refine Or.inr (Or.inr ⟨x, hx, q, hq1, fun s hs => ?_, hq3⟩)
      rcases List.mem_append.1 hs with hs | hs
      · exact hq2 s hs
      · rw [List.mem_singleton.1 hs]; exact hq3
theorem At.assume {C : List (List Int)} {S : WS} (h : At C S) (hr : S.rest = true) {l : Int} (hl : Wi S.nv l) (hn : lv S.tr l = 0) : At C { S with st := S.st ++ [S.tr.length], tr := S.tr ++ [l], rest := false } := by
  have h1 := h.iv.deeper (h.rest hr).1
  have h2 := (h1.put hl hn).rebase.flags false S.clash
  refine ⟨h2, List.pairwise_append.2 ⟨h.st1, by simp, fun x hx y hy => ?_⟩, fun hf => by cases hf⟩
  rw [List.mem_singleton.1 hy]
  have := h.iv.st0 x hx
  have := h.iv.hdl
  omega
def tSt (t : Int) : Prop := t = -3 ∨ t = -6
/-- one start more -/
theorem pushSt {w : World} {b : Nat} {o : Nat → Int} {h : Hs} {S : WS} (hR : Rp noEx w b o h S) {m : Nat} {bb : Nat} (hlen : S.st.length ≤ 17592186044415) (hB : Blk w bb [I m] 3) {K : World → Prop} (hK : ∀ w', Nx tSt noEx w b o { S with st := S.st ++ [m] } w' → K w') :
    ∃ (p' : Option Addr) (n' c' : Nat), ∃ w' : World, (Builtin.append_ #[29, 29] 29 #[.slice h.ss.1 h.ss.2.1 h.ss.2.2, .slice (some (⟨bb, 0, none⟩ : Addr)) 1 1]).run Try.prog w = .ok (.slice p' n' c') w' ∧
      nn (some ⟨b, 0, none⟩) fun p20 => Vc.st w' ((p20.add 2).add 0) (.slice p' n' c') K := by
  have hO := hR.st
  have hn := hR.stLen
  refine app_of2 (e := 3) (sz := 1) (z := I 0) (B := 8) Try.underlying29 (by kernel_rfl) rfl (by omega) hO hB.news1 (fun u hu => ?_) (by simp only [maxLen]; omega) (by omega) fun p' c' w' hO' hd => ?_
  · simp only [List.mem_singleton] at hu; subst hu; rfl
  have key : ∃ o' : Nat → Int, Ag w o o' ∧ (∀ j, ob p' j → o' j = -3) ∧ Keep (fun j => o j = -3) w w' := by
    rcases hd with ⟨e, _, _, kk⟩ | ⟨e, kk⟩
    · exact ⟨o, Ag.refl _ _, fun j hj => hR.stO j (by rw [e] at hj; exact hj), kk.mono fun j _ hj => hR.stO j hj⟩
    · exact ⟨fun j => if j < w.heap.size then o j else -3, fun j hj => if_pos hj, fun j hj => if_neg (by have := e j hj; omega), kk.none⟩
  obtain ⟨o', ha, hg, kk⟩ := key
  have hR' := hR.reown ha
  have k' : Keep (fun j => (fun t : Int => t = -3) (o' j)) w w' := kk.mono fun j hj hh => by show o' j = -3; rw [ha j hj]; exact hh
  have self' := Rp.selfK (T := fun t => t = -3) hR' k' (by decide)
  refine nn_of ?_
  simp only [add_mk, Nat.zero_add, Nat.add_zero]
  refine st_of self' (by simp) rfl fun w5 hB5 k5 z5 => hK w5 ?_
  have k56 : Keep (fun j => (fun t : Int => tSt t) (o' j)) w w5 := (k'.mono fun j _ hh => Or.inl hh).trans k5 fun j _ hj => Or.inr (by rw [show j = b from hj]; exact hR'.selfO)
  have one : ∀ j, One b j → o' j = -6 := fun j hj => by rw [show j = b from hj]; exact hR'.selfO
  have n5 : ∀ {t : Int}, t ≠ -3 → t ≠ -6 → ¬ tSt t := fun h1 h2 hh => by unfold tSt at hh; omega
  refine ⟨o', { h with ss := (p', h.ss.2.1 + 1, c') }, ⟨hB5, hR'.selfO, Rp.own (T := tSt) hR'.va hR'.vaO k56 (n5 (by decide) (by decide)), hR'.vaO, Rp.own (T := tSt) hR'.tr hR'.trO k56 (n5 (by decide) (by decide)), hR'.trO,
    ?_, hg, Rp.own (T := tSt) hR'.out hR'.outO k56 (n5 (by decide) (by decide)), hR'.outO, hR'.hl, hR'.ll, Rp.innK (S := S) (h := h) (T := tSt) hR' k56 (fun t ht => n5 (by omega) (by omega)), Rp.innOK (S := S) (h := h) hR' k56,
    Rp.own (T := tSt) hR'.lo hR'.loO k56 (n5 (by decide) (by decide)), hR'.loO, Rp.helK (S := S) (T := tSt) hR' k56 (n5 (by decide) (by decide)) (n5 (by decide) (by decide))⟩, ha, ?_⟩
  · show Own w5 3 1 p' (h.ss.2.1 + 1) c' ((S.st ++ [m]).map fun n : Nat => I n)
    rw [List.map_append]
    exact hO'.keep k5 fun j hj hh => by have := hg j hj; have := one j hh; omega
  · exact k56.mono fun j hj hh => by rw [ha j hj] at hh; exact hh
end Go.Proofs.Ytjpblaenebodlaa.Wt
