/- Watch: spread. -/
import Derived.Test.YtjpblaenebodlaaWI
set_option linter.unusedVariables false
set_option linter.unusedSimpArgs false
set_option linter.unusedSectionVars false
set_option maxRecDepth 100000
namespace Go.Proofs.Ytjpblaenebodlaa.Wt
open Go Go.Proofs.Ytjpblaenebodlaa.Vc Go.Proofs.Ytjpblaenebodlaa.T
open Go.Proofs.Ytjpblaenebodlaa.Apart (RdL own_rdl wrap_nat getE own_len copy same take_snoc Sl sv New)
open Go.Proofs.Ytjpblaenebodlaa.Lits (fl fl_iff idx idx_inj idx_range Ans ans_of indexP formedP)

section
variable {ex : Nat → Prop} {w w' : World} {b : Nat} {o : Nat → Int} {h : Hs} {S : WS}
/-- one of the Watch's own cells turned -/
theorem Rp.turnSelf (hR : Rp ex w b o h S) (hk : Keep (One b) w w') {S' : WS} {h' : Hs} (hB : Blk w' b [sv h'.vv, sv h'.tt, sv h'.ss, I S'.hd, sv h'.oo, sv h'.ll, .bool S'.rest, .bool S'.clash] 64)
    (e1 : h'.vv = h.vv ∧ h'.tt = h.tt ∧ h'.oo = h.oo ∧ h'.hh = h.hh) (e2 : S'.nv = S.nv ∧ S'.tr = S.tr ∧ S'.H = S.H ∧ S'.ls = S.ls)
    (hst : Own w' 3 1 h'.ss.1 h'.ss.2.1 h'.ss.2.2 (S'.st.map fun n : Nat => I n)) (hstO : ∀ i, ob h'.ss.1 i → o i = -3) (hlo : Own w' 74 1 h'.ll.1 h'.ll.2.1 h'.ll.2.2 (S'.lo.map Pt)) (hloO : ∀ i, ob h'.ll.1 i → o i = -5) : Rp ex w' b o h' S' := by
  have kk : Keep (fun j => (fun t : Int => t = -6) (o j)) w w' := hk.mono fun j _ hj => by rw [show j = b from hj]; exact hR.selfO
  obtain ⟨a1, a2, a3, a4⟩ := e1
  obtain ⟨c1, c2, c3, c4⟩ := e2
  refine ⟨hB, hR.selfO, ?_, by rw [a1]; exact hR.vaO, ?_, by rw [a2]; exact hR.trO, hst, hstO, ?_, by rw [a3]; exact hR.outO, by rw [a4, c1]; exact hR.hl, by rw [c4, c1]; exact hR.ll, ?_, ?_, hlo, hloO, ?_⟩
  · rw [a1, c1, c2]; exact Rp.own (T := fun t => t = -6) hR.va hR.vaO kk (by decide)
  · rw [a2, c2]; exact Rp.own (T := fun t => t = -6) hR.tr hR.trO kk (by decide)
  · rw [a3, a4]; exact Rp.own (T := fun t => t = -6) hR.out hR.outO kk (by decide)
  · rw [a4, c4]; exact Rp.innK (S := S) (h := h) (T := fun t => t = -6) hR kk (fun t ht hh => by omega)
  · rw [a4]; exact Rp.innOK (S := S) (h := h) hR kk
  · rw [c3]; exact Rp.helK (S := S) (T := fun t => t = -6) hR kk (by decide) (by decide)
theorem Rp.setHd (hR : Rp ex w b o h S) {n : Nat} {K : World → Prop} (hK : ∀ w', Rp ex w' b o h { S with hd := n } → Keep (One b) w w' → K w') : Vc.st w (((⟨b, 0, none⟩ : Addr).add 3).add 0) (.int .i64 n) K := by
  simp only [add_mk, Nat.zero_add, Nat.add_zero]
  refine st_of hR.self (by simp) rfl fun w1 hB k1 z1 => hK w1 ?_ k1
  have kk : Keep (fun j => (fun t : Int => t = -6) (o j)) w w1 := k1.mono fun j _ hj => by rw [show j = b from hj]; exact hR.selfO
  exact hR.turnSelf k1 (S' := { S with hd := n }) (h' := h) hB ⟨rfl, rfl, rfl, rfl⟩ ⟨rfl, rfl, rfl, rfl⟩ (Rp.own (T := fun t => t = -6) hR.st hR.stO kk (by decide)) hR.stO (Rp.own (T := fun t => t = -6) hR.lo hR.loO kk (by decide)) hR.loO
end
/-- a clause that is neither false nor unit -/
def Open (tr L : List Int) : Prop := (∃ x ∈ L, lv tr x = 1) ∨ ∃ x ∈ L, ∃ y ∈ L, x ≠ y ∧ lv tr x = 0 ∧ lv tr y = 0
def hdOf (W : World) (b : Nat) : Nat := match W.cell? ⟨b, 3, none⟩ with | some (.int _ x) => x.toNat | _ => 0
def tnOf (W : World) (b : Nat) : Nat := match W.cell? ⟨b, 1, none⟩ with | some (.slice _ n _) => n | _ => 0
theorem hdOf_eq {ex : Nat → Prop} {w : World} {b : Nat} {o : Nat → Int} {h : Hs} {S : WS} (hR : Rp ex w b o h S) : hdOf w b = S.hd := by
  unfold hdOf
  rw [hR.self.cell 3]
  simp
theorem tnOf_eq {ex : Nat → Prop} {w : World} {b : Nat} {o : Nat → Int} {h : Hs} {S : WS} (hR : Rp ex w b o h S) : tnOf w b = S.tr.length := by
  unfold tnOf
  rw [hR.self.cell 1]
  exact (own_len hR.tr).symm
/-- spread's state -/
structure Sp (C : List (List Int)) (S0 : WS) (w0 : World) (b : Nat) (o0 : Nat → Int) (W : World) (S : WS) : Prop where
  rp : ∃ o h, Rp noEx W b o h S ∧ Ag w0 o0 o
  iv : Iv C S S0.hd S0.tr.length fun _ _ => False
  fr : Fr S0 S
  der : ∀ x ∈ S.tr, Der C S0.tr x
  kp : Keep (fun i => tMine (o0 i)) w0 W
theorem Sp.then0 {C : List (List Int)} {S0 : WS} {w0 : World} {b : Nat} {o0 : Nat → Int} {W W' : World} {S : WS} (h : Sp C S0 w0 b o0 W S) (hk : Keep None W W') : Sp C S0 w0 b o0 W' S := by
  obtain ⟨o, h', hR, ha⟩ := h.rp
  exact ⟨⟨o, h', hR.keep0 hk, ha⟩, h.iv, h.fr, h.der, h.kp.then0 hk⟩
def SpOut (C : List (List Int)) (S0 : WS) (w0 : World) (b : Nat) (o0 : Nat → Int) (v : Value) (w' : World) : Prop :=
  (v = .bool true ∧ ∃ S, Sp C S0 w0 b o0 w' S ∧ S.hd = S.tr.length ∧ ∀ h ∈ S.lo, ∀ L u v, S.H h = some (L, u, v) → Open S.tr L) ∨
  (v = .bool false ∧ ∃ (S : WS) (pend : Nat → Int → Prop), (∃ o h, Rp noEx w' b o h S ∧ Ag w0 o0 o) ∧ Iv C S S0.hd S0.tr.length pend ∧ (∀ h a, pend h a → ∃ p, S.tr[p]? = some (-a) ∧ S0.hd ≤ p) ∧ Fr S0 S ∧ Clash C S0.tr ∧ Keep (fun i => tMine (o0 i)) w0 w')
theorem spread29 {C : List (List Int)} {S0 : WS} {w0 : World} {b : Nat} {o0 : Nat → Int} (hSp : Sp C S0 w0 b o0 w0 S0) :
    Calls Try.prog 29 #[Pt b] w0 fun e w' => ∃ v, e = .returned v ∧ SpOut C S0 w0 b o0 v w' := by
  refine V29_calls (some ⟨b, 0, none⟩) w0 (SpOut C S0 w0 b o0) ?_
  unfold V29
  have hnv0 := hSp.iv.wf.nvb
  refine lp_of (fun _ W => ∃ S, Sp C S0 w0 b o0 W S) (fun _ W => S0.nv + 1 - tnOf W b) ⟨S0, hSp⟩ ?_
  rintro ⟨⟩ W1 ⟨S1, hS1⟩
  simp only []
  -- inner: what is known is gone through
  refine lp_of (fun _ W => ∃ S, Sp C S0 w0 b o0 W S ∧ S1.tr.length ≤ S.tr.length) (fun _ W => S0.nv + 1 - hdOf W b) ⟨S1, hS1, Nat.le_refl _⟩ ?_
  rintro ⟨⟩ W2 ⟨S2, hS2, hge12⟩
  simp only []
  have kd : Keep None W2 W2.drew := (Keep.refl _ _).drew
  have kdd : Keep None W2 W2.drew.drew := kd.drew
  have hSd := hS2.then0 kd
  obtain ⟨o2, h2, hR2, ha2⟩ := hSd.rp
  have htl2 := own_len hR2.tr
  have hwf := hS2.iv.wf
  have htn := tr_le hwf.cons hwf.nd hwf.wi
  have hnve : S2.nv = S0.nv := hS2.fr.nv
  have hhdl := hS2.iv.hdl
  obtain ⟨o2', h2', hR2', _⟩ := hS2.rp
  have ehd : hdOf W2 b = S2.hd := hdOf_eq hR2'
  have etn1 : ∀ {V : World} {S : WS}, Sp C S0 w0 b o0 V S → tnOf V b = S.tr.length := fun hs => by obtain ⟨_, _, hr, _⟩ := hs.rp; exact tnOf_eq hr
  refine nn_of (ldI_of (by rw [add_mk]; exact hR2.self.cell 3) (nn_of (ldC_of (x := h2.tt.1) (n := h2.tt.2.1) (c := h2.tt.2.2) (by rw [add_mk]; exact hR2.self.cell 1) ?_)))
  refine pif_of (fun hlt => ?_) fun hge => ?_
  · have hlt : S2.hd < S2.tr.length := by have : (S2.hd : Int) < (h2.tt.2.1 : Int) := by simpa using hlt
                                          omega
    obtain ⟨o3, h3, hR3, ha3⟩ := (hS2.then0 kdd).rp
    have htl3 := own_len hR3.tr
    obtain ⟨x, hx⟩ := getE hlt
    refine nn_of (ldC_of (x := h3.tt.1) (n := h3.tt.2.1) (c := h3.tt.2.2) (by rw [add_mk]; exact hR3.self.cell 1) (nn_of (ldI_of (by rw [add_mk]; exact hR3.self.cell 3) ?_)))
    refine (own_rdl hR3.tr).ix (by omega) fun a y hy ha => ldI_of ha ?_
    rw [hx] at hy; injection hy with hy; subst hy
    refine nn_of (ldI_of (by rw [add_mk]; exact hR3.self.cell 3) (nn_of ?_))
    rw [wrap_nat S2.hd (by have := hwf.trl; omega)]
    refine hR3.setHd fun W3 hR3' k3 => ?_
    have hxw := hwf.wi x (List.mem_of_getElem? hx)
    have en : IntKind.wrap .i64 (0 - x) = -x := by
      obtain ⟨_, q1, q2⟩ := hxw
      rw [IntKind.wrap_i64]; omega
    rw [en]
    have hwl : Wi S2.nv (-x) := by obtain ⟨q0, q1, q2⟩ := hxw; exact ⟨by omega, by omega, by omega⟩
    obtain ⟨ids, hids⟩ := getE (show idxN (-x) < S2.ls.length by rw [hR3.ll]; exact idxN_lt hwl)
    have hx' : S2.tr[S2.hd]? = some (- -x) := by rw [Int.neg_neg]; exact hx
    have hbump := hS2.iv.bump hx' hids
    have hfrF : Fr S0 { S2 with hd := S2.hd + 1 } ∧ ({ S2 with hd := S2.hd + 1 } : WS).hd = S2.hd + 1 ∧ S2.tr.length ≤ ({ S2 with hd := S2.hd + 1 } : WS).tr.length := ⟨⟨hS2.fr.nv, hS2.fr.st, hS2.fr.lo, hS2.fr.rest, hS2.fr.clash, hS2.fr.pre⟩, rfl, Nat.le_refl _⟩
    have hVI := (vinv C S0.hd S0.tr.length S0.tr (-x)).and (F := fun S => Fr S0 S ∧ S.hd = S2.hd + 1 ∧ S2.tr.length ≤ S.tr.length)
      (fun S H ls hF => ⟨⟨hF.1.nv, hF.1.st, hF.1.lo, hF.1.rest, hF.1.clash, hF.1.pre⟩, hF.2.1, hF.2.2⟩) (fun S y hF => ⟨hF.1.put y, hF.2.1, by show S2.tr.length ≤ (S.tr ++ [y]).length; rw [List.length_append]; omega⟩)
    have hP0 : Pv C S0.hd S0.tr.length S0.tr (-x) ids { S2 with hd := S2.hd + 1 } [] true := ⟨hbump, by show S2.tr[S2.hd + 1 - 1]? = _; rw [Nat.add_sub_cancel]; exact hx', by show S0.hd < S2.hd + 1; have := hS2.iv.hd0l; omega, hS2.der, (fun hh => by cases hh), hwl, hR3.ll⟩
    have hlen := len_cap hS2.iv hids
    have z3 : w0.heap.size ≤ W3.heap.size := Nat.le_trans (hS2.then0 kdd).kp.size k3.size
    have ob3 : Keep (fun i => tMine (o0 i)) w0 W3 := (hS2.then0 kdd).kp.trans k3 fun j hj hh => by
      have e1 := ha3 j hj
      have e2 := hR3.selfO
      rw [← show j = b from hh] at e2
      show o0 j ≠ -9
      omega
    refine cl_of ok46 (visit46 hR3' hwl hids (by unfold cap at hlen; omega) hVI ⟨hP0, hfrF⟩) fun e w4 ⟨ok, S4, st, he, ⟨hP4, hF4, hh4, hl4⟩, o4, h4, hR4, ha4, k4⟩ => ⟨ok, he, ?_⟩
    have k04 : Keep (fun i => tMine (o0 i)) w0 w4 := ob3.trans k4 fun j hj hh => by
      have e1 := ha3 j hj
      have hh' : tMine (o3 j) := hh
      show o0 j ≠ -9
      rw [← e1]; exact hh'
    have ha04 : Ag w0 o0 o4 := ha3.trans ha4 (Nat.le_trans (hS2.then0 kdd).kp.size k3.size)
    have hiv4 := hP4.iv
    rw [List.nil_append] at hiv4
    cases ok with
    | false =>
      refine pif_t rfl (Or.inr ⟨rfl, _, _, ⟨o4, h4, hR4, ha04⟩, hiv4, fun h' a hpa => ⟨S4.hd - 1, by rw [hpa.1]; exact hP4.at', by have := hP4.hdg; omega⟩, ⟨hF4.nv, hF4.st, hF4.lo, hF4.rest, hF4.clash, hF4.pre⟩, ?_, k04⟩)
      obtain ⟨c, hc, hcl⟩ := hP4.bad rfl
      exact ⟨c, hc, fun y hy => hP4.der _ (hcl y hy)⟩
    | true =>
      refine pif_f rfl ?_
      have hiv4' : Iv C { S4 with ls := S4.ls.set (idxN (-x)) st } S0.hd S0.tr.length fun _ _ => False := hiv4.pendTo fun h' a hpa => by
        rcases hpa.2 with hh | hh
        · cases hh
        · cases hh
      refine ⟨⟨_, ⟨⟨o4, h4, hR4, ha04⟩, hiv4', ⟨hF4.nv, hF4.st, hF4.lo, hF4.rest, hF4.clash, hF4.pre⟩, hP4.der, k04⟩, by show S1.tr.length ≤ S4.tr.length; omega⟩, ?_⟩
      have e4 := hdOf_eq hR4
      have e4' : hdOf w4 b = S2.hd + 1 := e4.trans hh4
      show S0.nv + 1 - hdOf w4 b < S0.nv + 1 - hdOf W2 b
      rw [e4', ehd]
      omega
  · have hge : S2.hd = S2.tr.length := by have : ¬ (S2.hd : Int) < (h2.tt.2.1 : Int) := by simpa using hge
                                          omega
    refine nn_of (ldC_of (x := h2.tt.1) (n := h2.tt.2.1) (c := h2.tt.2.2) (by rw [add_mk]; exact hR2.self.cell 1) (nn_of (ldC_of (x := h2.ll.1) (n := h2.ll.2.1) (c := h2.ll.2.2) (by rw [add_mk]; exact hR2.self.cell 5) ?_)))
    have hlol := pts_len hR2.lo
    have hloH := hwf.lol
    refine lp_of (fun s W => ∃ (i : Nat) (S : WS), s.1 = (i : Int) ∧ i ≤ S2.lo.length ∧ Sp C S0 w0 b o0 W S ∧ (∃ o h, Rp noEx W b o h S ∧ Ag w0 o0 o ∧ Ag W2.drew o2 o) ∧ S2.tr.length ≤ S.tr.length ∧ S.hd = S2.hd ∧ S.H = S2.H ∧ S.lo = S2.lo ∧ Own W 74 1 h2.ll.1 h2.ll.2.1 h2.ll.2.2 (S2.lo.map Pt) ∧ (S.tr.length = S2.tr.length → S.tr = S2.tr ∧ ∀ j h', j < i → S2.lo[j]? = some h' → ∀ L u v, S2.H h' = some (L, u, v) → Open S2.tr L) ∧ W2.drew.heap.size ≤ W.heap.size) (fun s _ => (S2.lo.length - s.1).toNat)
      ⟨0, S2, rfl, Nat.zero_le _, hSd, ⟨o2, h2, hR2, ha2, Ag.refl _ _⟩, Nat.le_refl _, rfl, rfl, rfl, hR2.lo, (fun _ => ⟨rfl, fun j h' hj => by omega⟩), Nat.le_refl _⟩ ?_
    rintro ⟨i', ⟨⟩⟩ W5 ⟨i, S5, rfl, hi, hS5, ⟨o5, h5, hR5, ha5, ha25⟩, hle5, hhd5, hH5, hlo5, hOlo, hopen, zW0⟩
    simp only []
    refine pif_of (fun hlt => ?_) fun hge' => ?_
    · have zW := zW0
      have hlt : i < S2.lo.length := by have : (i : Int) < (h2.ll.2.1 : Int) := by simpa using hlt
                                        omega
      rw [wrap_nat i (by have := hloH.1; omega)]
      obtain ⟨hb, hhb⟩ := getE hlt
      obtain ⟨L, u, v, hHb⟩ := hloH.2 hb (List.mem_of_getElem? hhb)
      have hHb5 : S5.H hb = some (L, u, v) := by rw [hH5]; exact hHb
      obtain ⟨hLw, hLn, hLl⟩ := hS5.iv.wf.hel hb L u v hHb5
      refine hOlo.ix (by omega) (by omega) fun bq hbq => ?_
      have hOlo' := hOlo
      rw [hbq] at hOlo'
      refine ldP_of (x := some ⟨hb, 0, none⟩) (by rw [hOlo'.cell _ (by omega), Int.toNat_natCast, Nat.mul_one, List.getElem?_map, hhb]; rfl) ?_
      refine cl_of ok47 (look47 hR5 hS5.iv.wf.cons hS5.iv.wf.nvb hS5.iv.wf.trl hHb5 hLw hLl hLn) fun e w6 ⟨r, he, hLk⟩ => ?_
      rcases hLk with ⟨rfl, k6, hop⟩ | ⟨rfl, k6, hall⟩ | ⟨rfl, l, hlL, hl0, hall, hNx⟩
      · refine ⟨_, he, pif_f rfl ⟨⟨i + 1, S5, rfl, hlt, hS5.then0 k6, ⟨o5, h5, hR5.keep0 k6, ha5, ha25⟩, hle5, hhd5, hH5, hlo5, hOlo.keep0 k6, (fun htl => ?_), Nat.le_trans zW k6.size⟩, by omega⟩⟩
        obtain ⟨e5, hop5⟩ := hopen htl
        refine ⟨e5, fun j h' hj hjh L' u' v' hH' => ?_⟩
        by_cases hji : j = i
        · subst hji
          rw [hhb] at hjh; injection hjh with hjh; subst hjh
          rw [hHb] at hH'
          simp only [Option.some.injEq, Prod.mk.injEq] at hH'
          obtain ⟨rfl, _, _⟩ := hH'
          rw [← e5]; exact hop
        · exact hop5 j h' (by omega) hjh L' u' v' hH'
      · refine ⟨_, he, pif_t rfl (Or.inr ⟨rfl, S5, fun _ _ => False, ?_, hS5.iv, fun h' a hf => hf.elim, hS5.fr, ?_, (hS5.then0 k6).kp⟩)⟩
        · exact (hS5.then0 k6).rp
        · obtain ⟨c, hc, hcl⟩ := hS5.iv.src hb L u v hHb5
          exact ⟨c, hc, fun y hy => hS5.der _ ((lv_no hS5.iv.wf.cons).1 (hall y ((hcl y).2 hy)))⟩
      · obtain ⟨o6, h6, hR6, ha6, k6⟩ := hNx
        refine ⟨_, he, pif_f rfl ⟨⟨i + 1, { S5 with tr := S5.tr ++ [l] }, rfl, hlt, ⟨⟨o6, h6, hR6, ha5.trans ha6 hS5.kp.size⟩, hS5.iv.put (hLw l hlL) hl0, hS5.fr.put l, fun y hy => ?_, hS5.kp.trans k6 fun j hj hh => ?_⟩, ⟨o6, h6, hR6, ha5.trans ha6 hS5.kp.size, ha25.trans ha6 zW⟩, ?_, hhd5, hH5, hlo5, (hOlo.keep k6 fun j hj hh => ?_), (fun htl => ?_), Nat.le_trans zW k6.size⟩, by omega⟩⟩
        · rcases List.mem_append.1 hy with hy | hy
          · exact hS5.der y hy
          · rw [List.mem_singleton.1 hy]
            obtain ⟨c, hc, hcl⟩ := hS5.iv.src hb L u v hHb5
            exact Der.unit hc ((hcl _).1 hlL) fun z hz hne => hS5.der _ ((lv_no hS5.iv.wf.cons).1 (hall z ((hcl z).2 hz) hne))
        · have e1 := ha5 j hj
          have hh' : tPut (o5 j) := hh
          show o0 j ≠ -9
          rw [← e1]; rcases hh' with hh' | hh' | hh' <;> omega
        · show S2.tr.length ≤ (S5.tr ++ [l]).length
          rw [List.length_append]; omega
        · have e1 : o2 j = -5 := hR2.loO j hj
          have hh' : tPut (o5 j) := hh
          have hjw := ha25 j (hR2.lo.lt j hj)
          rcases hh' with hh' | hh' | hh' <;> omega
        · have htl' : (S5.tr ++ [l]).length = S2.tr.length := htl
          rw [List.length_append] at htl'
          simp at htl'
          omega
    · have hge' : i = S2.lo.length := by have : ¬ (i : Int) < (h2.ll.2.1 : Int) := by simpa using hge'
                                         omega
      subst hge'
      have htl5 := own_len hR5.tr
      refine nn_of (ldC_of (x := h5.tt.1) (n := h5.tt.2.1) (c := h5.tt.2.2) (by rw [add_mk]; exact hR5.self.cell 1) ?_)
      refine pif_of (fun heq => ?_) fun hne => ?_
      · have heq : S5.tr.length = S2.tr.length := by have : (h5.tt.2.1 : Int) = (h2.tt.2.1 : Int) := by simpa using heq
                                                     omega
        obtain ⟨e5, hop5⟩ := hopen heq
        refine Or.inl ⟨rfl, S5, hS5, by rw [hhd5, hge, e5], fun h' hh' L u v hH' => ?_⟩
        rw [hlo5] at hh'
        obtain ⟨j, hj, hje⟩ := List.mem_iff_getElem.1 hh'
        rw [hH5] at hH'
        rw [e5]
        exact hop5 j h' hj ((List.getElem?_eq_getElem hj).trans (by rw [hje])) L u v hH'
      · have hne : S5.tr.length ≠ S2.tr.length := fun e => by
          have : ¬ (h5.tt.2.1 : Int) = (h2.tt.2.1 : Int) := by simpa using hne
          omega
        refine ⟨⟨S5, hS5⟩, ?_⟩
        have q1 := etn1 hS5
        have q2 := etn1 hS1
        have q3 := tr_le hS5.iv.wf.cons hS5.iv.wf.nd hS5.iv.wf.wi
        have q4 : S5.nv = S0.nv := hS5.fr.nv
        rw [q1, q2]
        omega
end Go.Proofs.Ytjpblaenebodlaa.Wt
