/- Watch: Run. -/
import Derived.Test.YtjpblaenebodlaaWL
set_option linter.unusedVariables false
set_option linter.unusedSimpArgs false
set_option linter.unusedSectionVars false
set_option maxRecDepth 100000
namespace Go.Proofs.Ytjpblaenebodlaa.Wt
open Go Go.Proofs.Ytjpblaenebodlaa.Vc Go.Proofs.Ytjpblaenebodlaa.T
open Go.Proofs.Ytjpblaenebodlaa.Apart (RdL own_rdl wrap_nat getE own_len copy same take_snoc Sl sv New)
open Go.Proofs.Ytjpblaenebodlaa.Lits (fl fl_iff idx idx_inj idx_range Ans ans_of indexP formedP)

theorem Iv.flags {C : List (List Int)} {S : WS} {hd0 sz0 : Nat} {pend : Nat → Int → Prop} (h : Iv C S hd0 sz0 pend) (r c : Bool) : Iv C { S with rest := r, clash := c } hd0 sz0 pend :=
  ⟨⟨h.wf.nvb, h.wf.cons, h.wf.nd, h.wf.wi, h.wf.trl, h.wf.hel, h.wf.lsl, h.wf.lol⟩, h.hdl, h.st0, h.hd0l, h.sz0g, h.sz0l, h.w1, h.w3, h.w4, h.dm, h.cov, h.src, h.cl, h.lop⟩
section
variable {ex : Nat → Prop} {w : World} {b : Nat} {o : Nat → Int} {h : Hs} {S : WS}
theorem Rp.setRest (hR : Rp ex w b o h S) {r : Bool} {K : World → Prop} (hK : ∀ w', Rp ex w' b o h { S with rest := r } → Keep (One b) w w' → K w') : Vc.st w (((⟨b, 0, none⟩ : Addr).add 6).add 0) (.bool r) K := by
  simp only [add_mk, Nat.zero_add, Nat.add_zero]
  refine st_of hR.self (by simp) rfl fun w1 hB k1 z1 => hK w1 ?_ k1
  have kk : Keep (fun j => (fun t : Int => t = -6) (o j)) w w1 := k1.mono fun j _ hj => by rw [show j = b from hj]; exact hR.selfO
  exact hR.turnSelf k1 (S' := { S with rest := r }) (h' := h) hB ⟨rfl, rfl, rfl, rfl⟩ ⟨rfl, rfl, rfl, rfl⟩ (Rp.own (T := fun t => t = -6) hR.st hR.stO kk (by decide)) hR.stO (Rp.own (T := fun t => t = -6) hR.lo hR.loO kk (by decide)) hR.loO
theorem Rp.setClash (hR : Rp ex w b o h S) {r : Bool} {K : World → Prop} (hK : ∀ w', Rp ex w' b o h { S with clash := r } → Keep (One b) w w' → K w') : Vc.st w (((⟨b, 0, none⟩ : Addr).add 7).add 0) (.bool r) K := by
  simp only [add_mk, Nat.zero_add, Nat.add_zero]
  refine st_of hR.self (by simp) rfl fun w1 hB k1 z1 => hK w1 ?_ k1
  have kk : Keep (fun j => (fun t : Int => t = -6) (o j)) w w1 := k1.mono fun j _ hj => by rw [show j = b from hj]; exact hR.selfO
  exact hR.turnSelf k1 (S' := { S with clash := r }) (h' := h) hB ⟨rfl, rfl, rfl, rfl⟩ ⟨rfl, rfl, rfl, rfl⟩ (Rp.own (T := fun t => t = -6) hR.st hR.stO kk (by decide)) hR.stO (Rp.own (T := fun t => t = -6) hR.lo hR.loO kk (by decide)) hR.loO
theorem Rp.stLen (hR : Rp ex w b o h S) : S.st.length = h.ss.2.1 := by
  have := hR.st.len
  rw [List.length_map] at this
  omega
theorem depth14 (hR : Rp ex w b o h S) : Calls Try.prog 14 #[Pt b] w fun e w' => e = .returned (I (S.st.length : Nat)) ∧ Keep None w w' := by
  refine ans_of (V14_calls (some ⟨b, 0, none⟩) w (Ans w _) ?_)
  unfold V14
  refine nn_of (ldC_of (x := h.ss.1) (n := h.ss.2.1) (c := h.ss.2.2) (by rw [add_mk]; exact hR.self.cell 2) ?_)
  rw [← hR.stLen]
  exact ⟨rfl, Keep.refl _ _⟩
end
/-- nothing more follows -/
def Closed (C : List (List Int)) (tr : List Int) : Prop := ∀ c ∈ C, (∃ x ∈ c, -x ∈ c) ∨ (∃ x ∈ c, x ∈ tr) ∨ ∃ x ∈ c, ∃ y ∈ c, x ≠ y ∧ -x ∉ tr ∧ -y ∉ tr
theorem Iv.closed {C : List (List Int)} {S : WS} {hd0 sz0 : Nat} (h : Iv C S hd0 sz0 fun _ _ => False) (hhd : S.hd = S.tr.length) (hop : ∀ h ∈ S.lo, ∀ L u v, S.H h = some (L, u, v) → Open S.tr L) : Closed C S.tr := by
  intro c hc
  rcases h.cov c hc with hq | ⟨h', L, u, v, q1, q2, q3 | q3⟩ | ⟨x, hx, q, hq, _⟩
  · exact Or.inl hq
  · rcases hop h' q3 L u v q1 with ⟨x, hx, h1⟩ | ⟨x, hx, y, hy, hne, h1, h2⟩
    · exact Or.inr (Or.inl ⟨x, (q2 x).1 hx, lv_one.1 h1⟩)
    · exact Or.inr (Or.inr ⟨x, (q2 x).1 hx, y, (q2 y).1 hy, hne, (lv_nil.1 h1).2, (lv_nil.1 h2).2⟩)
  · obtain ⟨L2, u2, v2, e1, hu, hv, hne, _⟩ := h.w1 _ h' q3
    rw [q1] at e1
    simp only [Option.some.injEq, Prod.mk.injEq] at e1
    obtain ⟨rfl, rfl, rfl⟩ := e1
    have go : ∀ a b : Int, (a = u ∧ b = v ∨ a = v ∧ b = u) → -a ∈ S.tr → b ∈ S.tr := fun a b hab ha => by
      obtain ⟨p, hp1, hp2⟩ := List.mem_iff_getElem.1 ha
      rcases h.w4 _ h' L u v q3 q1 a b hab p ((List.getElem?_eq_getElem hp1).trans (by rw [hp2])) (by omega) with hf | ⟨q, hq, _⟩
      · exact hf.elim
      · exact List.mem_of_getElem? hq
    by_cases hnu : -u ∈ S.tr
    · exact Or.inr (Or.inl ⟨v, (q2 v).1 hv, go u v (Or.inl ⟨rfl, rfl⟩) hnu⟩)
    · by_cases hnv : -v ∈ S.tr
      · exact Or.inr (Or.inl ⟨u, (q2 u).1 hu, go v u (Or.inr ⟨rfl, rfl⟩) hnv⟩)
      · exact Or.inr (Or.inr ⟨u, (q2 u).1 hu, v, (q2 v).1 hv, hne, hnu, hnv⟩)
  · exact Or.inr (Or.inl ⟨x, hx, List.mem_of_getElem? hq⟩)
/-- what holds between calls -/
structure At (C : List (List Int)) (S : WS) : Prop where
  iv : Iv C S S.hd S.tr.length fun _ _ => False
  st1 : S.st.Pairwise (· ≤ ·)
  rest : S.rest = true → S.hd = S.tr.length ∧ Closed C S.tr
def RunOut (C : List (List Int)) (S : WS) (w : World) (b : Nat) (o : Nat → Int) (v : Bool) (w' : World) : Prop :=
  ∃ S', Nx tMine noEx w b o S' w' ∧ At C S' ∧ S'.nv = S.nv ∧ S'.st = S.st ∧ S'.rest = v ∧ S'.clash = (!v) ∧ (v = true → S.tr <+: S'.tr ∧ ∀ x ∈ S'.tr, Der C S.tr x) ∧ (v = false → S'.tr = S.tr ∧ Clash C S.tr)
theorem run10 {C : List (List Int)} {w : World} {b : Nat} {o : Nat → Int} {h : Hs} {S : WS} (hR : Rp noEx w b o h S) (hA : At C S) :
    Calls Try.prog 10 #[Pt b] w fun e w' => ∃ v : Bool, e = .returned (.bool v) ∧ RunOut C S w b o v w' := by
  refine (V10_calls (some ⟨b, 0, none⟩) w (fun r w' => ∃ v : Bool, r = .bool v ∧ RunOut C S w b o v w') ?_).mono fun e w' ⟨r, he, v, hv, hk⟩ => ⟨v, by rw [he, hv], hk⟩
  unfold V10
  have kd : Keep None w w.drew := (Keep.refl _ _).drew
  have hRd := hR.keep0 kd
  have htl := own_len hRd.tr
  have hwf := hA.iv.wf
  refine nn_of (ldC_of (x := h.tt.1) (n := h.tt.2.1) (c := h.tt.2.2) (by rw [add_mk]; exact hRd.self.cell 1) (nn_of (ldI_of (by rw [add_mk]; exact hRd.self.cell 3) ?_)))
  have hSp : Sp C S w.drew b o w.drew S := ⟨⟨o, h, hRd, Ag.refl _ _⟩, hA.iv, Fr.refl S, fun x hx => Der.fact hx, Keep.refl _ _⟩
  refine cl_of ok29 (spread29 hSp) fun e w1 ⟨v, he, hO⟩ => ?_
  rcases hO with ⟨rfl, S1, hS1, hhd1, hop1⟩ | ⟨rfl, S1, pend, ⟨o1, h1, hR1, ha1⟩, hI1, hpend, hF1, hcl, k1⟩
  · refine ⟨true, he, fun _ W' => W' = w1, pif_f rfl rfl, ?_⟩
    rintro ⟨⟩ W' rfl
    obtain ⟨o1, h1, hR1, ha1⟩ := hS1.rp
    have hI1 := hS1.iv.rebase
    have hclo := hI1.closed hhd1 hop1
    have k1 : Keep (fun i => tMine (o i)) w W' := (kd.none (S := fun i => tMine (o i))).trans hS1.kp fun j hj hh => hh
    refine ⟨fun _ W2 => ∃ S2, Nx tMine noEx w b o S2 W2 ∧ Iv C S2 S1.hd S1.tr.length (fun _ _ => False) ∧ S2.nv = S.nv ∧ S2.tr = S1.tr ∧ S2.st = S.st ∧ S2.hd = S1.hd, ?_, ?_⟩
    · refine gd_t rfl (cl_of ok14 (depth14 hR1) fun e w2 ⟨he2, k2⟩ => ⟨_, he2, ?_⟩)
      have hR2 := hR1.keep0 k2
      refine pif_of (fun h0 => ?_) fun h0 => ?_
      · have h0 : S1.st = [] := by
          have : (S1.st.length : Int) = 0 := by simpa using h0
          exact List.eq_nil_of_length_eq_zero (by omega)
        refine cl_of ok30 (tighten30 hR2 hI1 h0 rfl hop1) fun e w3 ⟨he3, S2, ⟨o2, h2, hR3, ha2, k3⟩, hI2, b1, b2, b3, b4, b5, _, _⟩ => ⟨he3, S2, ⟨o2, h2, hR3, ?_, ?_⟩, hI2, b2.trans hS1.fr.nv, b3, b4.trans hS1.fr.st, b5⟩
        · exact Ag.trans ha1 ha2 (Nat.le_trans hS1.kp.size k2.size)
        · refine (k1.then0 k2).trans k3 fun j hj hh => ?_
          have hh' : tTig (o1 j) := hh
          rw [ha1 j (Nat.lt_of_lt_of_le hj kd.size)] at hh'
          show o j ≠ -9
          unfold tTig at hh'; omega
      · exact ⟨S1, ⟨o1, h1, hR2, ha1, k1.then0 k2⟩, hI1, hS1.fr.nv, rfl, hS1.fr.st, rfl⟩
    · rintro ⟨⟩ W2 ⟨S2, ⟨o2, h2, hR2, ha2, k2⟩, hI2, b1, b2, b3, b4⟩
      simp only []
      refine nn_of (hR2.setRest fun w5 hR5 k5 => nn_of (hR5.setClash fun w6 hR6 k6 => ⟨true, rfl, _, ⟨o2, h2, hR6, ha2, ?_⟩, ⟨?_, by rw [show ({ S2 with rest := true, clash := !true } : WS).st = S.st from b3]; exact hA.st1, fun _ => ⟨by show S2.hd = S2.tr.length; rw [b4, b2]; exact hhd1, by show Closed C S2.tr; rw [b2]; exact hclo⟩⟩, b1, b3, rfl, rfl, fun _ => ⟨by show S.tr <+: S2.tr; rw [b2]; exact hS1.fr.pre, fun x hx => hS1.der x (by rw [← b2]; exact hx)⟩, fun hf => by cases hf⟩))
      · exact (k2.trans k5 fun j hj hh => by rw [show j = b from hh]; exact fun e => by have := ha2 b (by rw [← show j = b from hh]; exact hj); have := hR2.selfO; omega).trans k6 fun j hj hh => by rw [show j = b from hh]; exact fun e => by have := ha2 b (by rw [← show j = b from hh]; exact hj); have := hR2.selfO; omega
      · have := hI2.flags true (!true)
        rw [← b4, ← b2] at this
        exact this
  · have k1' : Keep (fun i => tMine (o i)) w w1 := (kd.none (S := fun i => tMine (o i))).trans k1 fun j hj hh => hh
    have hw1 := hI1.wf
    have hIb := hI1.back hpend
    have hpre : S1.tr.take S.tr.length = S.tr := (List.prefix_iff_eq_take.1 hF1.pre).symm
    have hhl := hI1.hdl
    refine ⟨false, he, fun _ W2 => Nx tMine noEx w b o { S1 with tr := S.tr, hd := S.hd } W2, ?_, ?_⟩
    · refine pif_t rfl ?_
      rw [← htl]
      refine cl_of ok28 (cut28 hR1 hw1.nvb hw1.cons hw1.nd hw1.wi (by have := hw1.trl; omega) hw1.trl hF1.pre.length_le) fun e w3 ⟨he3, o3, h3, hR3, ha3, k3⟩ => ⟨he3, nn_of (hR3.setHd fun w4 hR4 k4 => ?_)⟩
      rw [hpre] at hR4
      refine ⟨o3, h3, hR4, Ag.trans ha1 ha3 k1.size, (k1'.trans k3 fun j hj hh => ?_).trans k4 fun j hj hh => ?_⟩
      · have hh' : tPut (o1 j) := hh
        rw [ha1 j (Nat.lt_of_lt_of_le hj kd.size)] at hh'
        show o j ≠ -9
        unfold tPut at hh'; omega
      · rw [show j = b from hh]
        have h6 := hR.selfO
        exact fun e => by omega
    · rintro ⟨⟩ W2 ⟨o2, h2, hR2, ha2, k2⟩
      refine ⟨fun _ W3 => W3 = W2, gd_f rfl (pif_f rfl rfl), ?_⟩
      rintro ⟨⟩ W3 rfl
      have h6 := hR.selfO
      refine nn_of (hR2.setRest fun w5 hR5 k5 => nn_of (hR5.setClash fun w6 hR6 k6 => ⟨false, rfl, _, ⟨o2, h2, hR6, ha2, ?_⟩, ⟨?_, by show S1.st.Pairwise _; rw [hF1.st]; exact hA.st1, (fun hh => by cases hh)⟩, hF1.nv, hF1.st, rfl, rfl, (fun hf => by cases hf), fun _ => ⟨rfl, hcl⟩⟩))
      · exact (k2.trans k5 fun j hj hh => by rw [show j = b from hh]; exact fun e => by omega).trans k6 fun j hj hh => by rw [show j = b from hh]; exact fun e => by omega
      · rw [hpre] at hIb
        exact hIb.flags false (!false)
end Go.Proofs.Ytjpblaenebodlaa.Wt
