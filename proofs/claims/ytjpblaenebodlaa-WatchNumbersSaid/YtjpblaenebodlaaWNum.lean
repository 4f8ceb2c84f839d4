/- WatchNumbers. -/
import Derived.Test.YtjpblaenebodlaaWAa
import Derived.Below
set_option linter.unusedVariables false
set_option linter.unusedSimpArgs false
set_option linter.unusedSectionVars false
set_option maxRecDepth 100000
namespace Go.Proofs.Ytjpblaenebodlaa.Wt
open Go Go.Proofs.Ytjpblaenebodlaa.Vc Go.Proofs.Ytjpblaenebodlaa.T
open Go.Proofs.Ytjpblaenebodlaa.Apart (RdL own_rdl wrap_nat getE own_len copy same take_snoc Sl sv New)

theorem rdc_nil (B : Nat → Prop) (w : World) (p : Option Addr) : RdC B w p 0 [] := ⟨rfl, fun i es h => by simp at h⟩
theorem asm_false {M : Nat → Prop} {w w' : World} {b : Nat} {C : List (List Int)} {S : WS} {l v : Int} (h : Asm M w b C S l v w') (hr : S.rest = false) (hw : Wi S.nv l) : v = 3 ∧ Keep None w w' := by
  rcases h with ⟨_, h, _⟩ | ⟨e, _, _, k⟩ | ⟨_, _, h, _⟩ | ⟨_, _, h, _⟩
  · exact absurd hw h
  · exact ⟨e, k⟩
  · rw [hr] at h; cases h
  · rw [hr] at h; cases h
theorem law3 (w : World) : Calls Try.prog 3 #[] w fun e w' => e = .returned (.bool true) ∧ RowKit.Below w.heap.size w w' := by
  refine (V3_calls w (fun v w' => v = .bool true ∧ Keep None w w') ?_).mono fun e w' ⟨v, he, hv, hk⟩ => ⟨by rw [he, hv], hk.below0⟩
  unfold V3
  refine cl_of ok7 (wa_new (rdc_nil (fun _ => False) w none) (fun i h => h.elim) (Nat.zero_le _) (fun es h => by cases h)) fun e w1 ⟨q1, v1, he, h1⟩ => ⟨q1, v1, he, ?_⟩
  rcases h1 with ⟨rfl, rfl, _, k1⟩ | ⟨_, _, _, _, _, hf, _⟩
  rotate_left
  · have := hf.1; omega
  refine alc_at fun b7 w2 hb7 hB7 k2 => ?_
  refine alc_at fun b8 w3 hb8 hB8 k3 => ?_
  have hC : RdC (fun i => i < w3.heap.size) w3 (some ⟨b8, 0, none⟩) 1 [[1]] := ⟨rfl, fun i es hi => by
    cases i with
    | succ i => simp at hi
    | zero =>
      simp only [List.getElem?_cons_zero, Option.some.injEq] at hi
      subst hi
      refine ⟨⟨b8, 0, none⟩, some ⟨b7, 0, none⟩, 1, 1, rfl, by rw [add_mk]; exact hB8.cell 0, ?_, hB8.lt, fun j ⟨a, ha, hj⟩ _ => ?_⟩
      · exact own_rdl (c := 1) (Or.inr ⟨b7, [I 1], rfl, hB7.keep0 k3, Nat.le_refl _, by decide, rfl, rfl⟩)
      · injection ha with ha; subst ha; subst hj
        exact Nat.lt_of_lt_of_le hB7.lt k3.size⟩
  refine cl_of ok7 (wa_new hC (fun i h => h) (by decide) (fun es h => by rw [List.mem_singleton.1 h]; decide)) fun e w4 ⟨q2, v2, he, h2⟩ => ⟨q2, v2, he, ?_⟩
  rcases h2 with ⟨_, _, hn, _⟩ | ⟨b, M, S, rfl, rfl, hf, hA, hM, k4, n1, n2, n3, n4, n5⟩
  · refine absurd ⟨by decide, by decide, fun c hc x hx => ?_⟩ hn
    rw [List.mem_singleton.1 hc] at hx
    rw [List.mem_singleton.1 hx]
    exact ⟨by decide, by decide, by decide⟩
  have n1' : S.nv = 2 := n1
  have kk : Keep None w w4 := ((k1.trans k2 fun _ _ h => h).trans k3 fun _ _ h => h).trans k4 fun _ _ h => h
  have s3 : w.heap.size ≤ w3.heap.size := by have := k1.size; have := k2.size; have := k3.size; omega
  refine pif_f (by rfl) ?_
  refine cl_of ok8 (wa_assume hA 2) fun e w5 ⟨v3, he, h3⟩ => ⟨v3, he, ?_⟩
  obtain ⟨rfl, k5⟩ := asm_false h3 n4 ⟨by decide, by omega, by omega⟩
  refine cl_of ok9 (wa_undo (hA.keep0 k5)) fun e w6 h6 => ?_
  rcases h6 with ⟨he, _, k6⟩ | ⟨_, st', s, _, hst, _⟩
  rotate_left
  · rw [n3] at hst; simp at hst
  refine ⟨3, he, ?_⟩
  have hA6 := (hA.keep0 k5).keep0 k6
  have hncl : ¬ Clash [[1]] S.tr := by
    rw [n2]
    refine clash_true (T := fun x => x = 1) (fun x hx h => by omega) (fun c hc => ⟨1, by rw [List.mem_singleton.1 hc]; simp, rfl⟩) (fun x hx => by cases hx)
  refine cl_of ok10 (wa_run hA6) fun e w7 ⟨v, M', S', he, hAf, e1, e2, e3, e4, e5, e6, e7⟩ => ⟨v, he, ?_⟩
  obtain rfl : v = true := e5.2 hncl
  have h1t : (1 : Int) ∈ S'.tr := ((e6 rfl).2 1).2 (Der.unit (c := [1]) (by simp) (by simp) fun x hx hne => absurd (List.mem_singleton.1 hx) hne)
  have g1 : ∀ i, M' i → w.heap.size ≤ i := fun i hi => by
    rcases hAf.gr i hi with h | h
    · exact Nat.le_trans s3 (hM i h)
    · have := k4.size; have := k5.size; have := k6.size; omega
  have kw : Keep None w w7 := ((kk.trans k5 fun _ _ h => h).trans k6 fun _ _ h => h).trans hAf.kp fun i hi h => by
    have := Nat.le_trans s3 (hM i h); omega
  refine cl_of ok8 (wa_assume hAf.wa (-1)) fun e w8 ⟨v4, he, h4⟩ => ⟨v4, he, ?_⟩
  have hwi : Wi S'.nv (-1) := ⟨by decide, by omega, by omega⟩
  rcases h4 with ⟨_, h, _⟩ | ⟨_, _, h, _⟩ | ⟨rfl, _, _, _, k8⟩ | ⟨_, _, _, ⟨_, h⟩, _⟩
  · exact absurd hwi h
  · rw [e3] at h; cases h
  rotate_left
  · exact absurd h1t h
  refine cl_of ok8 (wa_assume (hAf.wa.keep0 k8) 3) fun e w9 ⟨v5, he, h5⟩ => ⟨v5, he, ?_⟩
  have hw3 : ¬ Wi S'.nv 3 := fun h => by have := h.2.2; omega
  rcases h5 with ⟨rfl, _, k9⟩ | ⟨_, h, _⟩ | ⟨_, h, _⟩ | ⟨_, h, _⟩
  · exact ⟨rfl, (kw.trans k8 fun _ _ h => h).trans k9 fun _ _ h => h⟩
  · exact absurd h hw3
  · exact absurd h hw3
  · exact absurd h hw3
end Go.Proofs.Ytjpblaenebodlaa.Wt
