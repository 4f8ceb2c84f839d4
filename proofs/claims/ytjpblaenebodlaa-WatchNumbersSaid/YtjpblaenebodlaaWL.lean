/- Watch: tighten. -/
import Derived.Test.YtjpblaenebodlaaWK
set_option linter.unusedVariables false
set_option linter.unusedSimpArgs false
set_option linter.unusedSectionVars false
set_option maxRecDepth 100000
namespace Go.Proofs.Ytjpblaenebodlaa.Wt
open Go Go.Proofs.Ytjpblaenebodlaa.Vc Go.Proofs.Ytjpblaenebodlaa.T
open Go.Proofs.Ytjpblaenebodlaa.Apart (RdL own_rdl wrap_nat getE own_len copy same take_snoc Sl sv New)
open Go.Proofs.Ytjpblaenebodlaa.Lits (fl fl_iff idx idx_inj idx_range Ans ans_of indexP formedP)

section
variable {ex : Nat → Prop} {w : World} {b : Nat} {o : Nat → Int} {h : Hs} {S : WS}
theorem is49 (hR : Rp ex w b o h S) (hc : Cons S.tr) (hnv : S.nv ≤ 1048576) {bx : Nat} {ty : TypeId} (hB : Blk w bx [Pt b] ty) {l : Int} (hl : Wi S.nv l) :
    Calls Try.prog 49 #[I l, Pt bx] w fun e w' => e = .returned (.bool (lv S.tr l == 1)) ∧ Keep None w w' := by
  refine ans_of (V49_calls l ⟨bx, 0, none⟩ w (Ans w _) ?_)
  unfold V49
  refine ldP_of (x := some ⟨b, 0, none⟩) (hB.cell 0) ?_
  exact cl_of ok26 (of26 hR hc hnv hl) fun e w1 ⟨he, k1⟩ => ⟨_, he, rfl, k1⟩
theorem any63 (hR : Rp ex w b o h S) (hc : Cons S.tr) (hnv : S.nv ≤ 1048576) {bx : Nat} {ty : TypeId} (hB : Blk w bx [Pt b] ty) {lp : Option Addr} {ln lc : Nat} {L : List Int} (hRd : RdL w lp ln L) (hL : ∀ x ∈ L, Wi S.nv x) (hLl : L.length ≤ 2097153) :
    Calls Try.prog 63 #[.slice lp ln lc, .func (.func 49) #[] #[Pt bx]] w fun e w' => ∃ r : Int, e = .returned (I r) ∧ (0 ≤ r ↔ ∃ x ∈ L, lv S.tr x = 1) ∧ Keep None w w' := by
  refine (V63_calls lp ln lc (.func (.func 49) #[] #[Pt bx]) w (fun v w' => ∃ r : Int, v = I r ∧ (0 ≤ r ↔ ∃ x ∈ L, lv S.tr x = 1) ∧ Keep None w w') ?_).mono fun e w' ⟨v, he, r, hv, hk⟩ => ⟨r, by rw [he, hv], hk⟩
  unfold V63
  have hll := hRd.len
  refine lp_of (fun s W => ∃ i : Nat, s.1 = (i : Int) ∧ i ≤ ln ∧ Keep None w W ∧ ∀ x ∈ L.take i, lv S.tr x ≠ 1) (fun s _ => (ln - s.1).toNat) ⟨0, rfl, Nat.zero_le _, Keep.refl _ _, fun x hx => by simp at hx⟩ ?_
  rintro ⟨i', ⟨⟩⟩ W ⟨i, rfl, hi, kW, hv⟩
  simp only [] at hv ⊢
  refine pif_of (fun hlt => ?_) fun hge => ?_
  · have hlt : i < ln := by simpa using hlt
    rw [wrap_nat i (by omega)]
    refine (hRd.keep0 kW).ix hlt fun a x hx ha => ldI_of ha ?_
    have hxL := List.mem_of_getElem? hx
    refine ⟨_, _, _, rfl, cl_of ok49 (is49 (hR.keep0 kW) hc hnv (hB.keep0 kW) (hL x hxL)) fun e w3 ⟨he, k3⟩ => ⟨_, he, ?_⟩⟩
    refine pif_of (fun h1 => ?_) fun h1 => ?_
    · exact ⟨i, rfl, ⟨fun _ => ⟨x, hxL, by simpa using h1⟩, fun _ => by omega⟩, kW.then0 k3⟩
    · refine ⟨⟨i + 1, rfl, hlt, kW.then0 k3, fun y hy => ?_⟩, by omega⟩
      rw [take_snoc hx] at hy
      rcases List.mem_append.1 hy with hy | hy
      · exact hv y hy
      · rw [List.mem_singleton.1 hy]; simpa using h1
  · have hge : i = ln := by simp at hge; omega
    subst hge
    rw [← hll, List.take_length] at hv
    exact ⟨-1, rfl, ⟨fun hh => by omega, fun ⟨x, hx, h1⟩ => absurd h1 (hv x hx)⟩, kW⟩
theorem has48 (hR : Rp ex w b o h S) (hc : Cons S.tr) (hnv : S.nv ≤ 1048576) {bx : Nat} {ty : TypeId} (hB : Blk w bx [Pt b] ty) {lp : Option Addr} {ln lc : Nat} {L : List Int} (hRd : RdL w lp ln L) (hL : ∀ x ∈ L, Wi S.nv x) (hLl : L.length ≤ 2097153) :
    Calls Try.prog 48 #[.slice lp ln lc, .func (.func 49) #[] #[Pt bx]] w fun e w' => ∃ r : Bool, e = .returned (.bool r) ∧ (r = true ↔ ∃ x ∈ L, lv S.tr x = 1) ∧ Keep None w w' := by
  refine (V48_calls lp ln lc (.func (.func 49) #[] #[Pt bx]) w (fun v w' => ∃ r : Bool, v = .bool r ∧ (r = true ↔ ∃ x ∈ L, lv S.tr x = 1) ∧ Keep None w w') ?_).mono fun e w' ⟨v, he, r, hv, hk⟩ => ⟨r, by rw [he, hv], hk⟩
  unfold V48
  exact cl_of ok63 (any63 hR hc hnv hB hRd hL hLl) fun e w1 ⟨r, he, hr, k1⟩ => ⟨_, he, _, rfl, by simpa using hr, k1⟩
end
/-- a loose clause that is true for ever is let go -/
theorem Iv.drop {C : List (List Int)} {S : WS} {hd0 sz0 : Nat} (h : Iv C S hd0 sz0 fun _ _ => False) {hb : Nat} {lo' : List Nat} {L : List Int} {u v x : Int} (hH : S.H hb = some (L, u, v)) (hx : x ∈ L) (hx1 : lv S.tr x = 1) (hst : S.st = []) (hsz : sz0 = S.tr.length) (hl1 : lo'.Nodup) (hl2 : ∀ y ∈ lo', y ∈ S.lo) (hl3 : ∀ y ∈ S.lo, y = hb ∨ y ∈ lo') :
    Iv C { S with lo := lo' } hd0 sz0 fun _ _ => False := by
  refine ⟨⟨h.wf.nvb, h.wf.cons, h.wf.nd, h.wf.wi, h.wf.trl, h.wf.hel, h.wf.lsl, Nat.le_trans (nodup_le hl1 hl2) h.wf.lol.1, fun y hy => h.wf.lol.2 y (hl2 y hy)⟩, h.hdl, h.st0, h.hd0l, h.sz0g, h.sz0l, h.w1, h.w3, h.w4, h.dm, fun c hc => ?_, h.src, h.cl, hl1, fun y hy j => h.lop.2 y (hl2 y hy) j⟩
  rcases h.cov c hc with hq | ⟨h', L2, u2, v2, q1, q2, q3⟩ | hq
  · exact Or.inl hq
  · by_cases hhh : h' = hb
    · subst hhh
      rw [hH] at q1
      simp only [Option.some.injEq, Prod.mk.injEq] at q1
      obtain ⟨rfl, rfl, rfl⟩ := q1
      obtain ⟨q, hq1, hq2⟩ := List.mem_iff_getElem.1 (lv_one.1 hx1)
      exact Or.inr (Or.inr ⟨x, (q2 x).1 hx, q, (List.getElem?_eq_getElem hq1).trans (by rw [hq2]), (fun s hs => by rw [show ({ S with lo := lo' } : WS).st = [] from hst] at hs; cases hs), by omega⟩)
    · exact Or.inr (Or.inl ⟨h', L2, u2, v2, q1, q2, q3.imp (fun q => (hl3 _ q).resolve_left hhh) id⟩)
  · exact Or.inr (Or.inr hq)
theorem nodup_leG {α : Type} [DecidableEq α] {l dom : List α} (hn : l.Nodup) (hs : ∀ x ∈ l, x ∈ dom) : l.length ≤ dom.length := by
  induction l generalizing dom with
  | nil => simp
  | cons a l ih =>
    rw [List.nodup_cons] at hn
    have ha := hs a (by simp)
    have := ih (dom := dom.erase a) hn.2 fun x hx => (List.mem_erase_of_ne (fun (e : x = a) => hn.1 (e ▸ hx))).2 (hs x (by simp [hx]))
    rw [List.length_erase_of_mem ha] at this
    have hp : 0 < dom.length := List.length_pos_of_mem ha
    simp only [List.length_cons]
    omega
theorem nf_two {tr L : List Int} (hnd : L.Nodup) (h : Open tr L) (hno : ¬ ∃ x ∈ L, lv tr x = 1) : 2 ≤ (nf tr L).length := by
  rcases h with h | ⟨x, hx, y, hy, hne, h1, h2⟩
  · exact absurd h hno
  · have h3 := nodup_leG (l := [x, y]) (dom := nf tr L) (by simp [hne]) fun z hz => by
      simp only [List.mem_cons, List.not_mem_nil, or_false] at hz
      rcases hz with rfl | rfl
      · exact List.mem_filter.2 ⟨hx, by simp [h1]⟩
      · exact List.mem_filter.2 ⟨hy, by simp [h2]⟩
    simpa using h3
def tTig (t : Int) : Prop := t = -7 ∨ t = -4 ∨ 0 ≤ t ∨ t = -6
theorem tighten30 {C : List (List Int)} {w : World} {b : Nat} {o : Nat → Int} {h : Hs} {S : WS} (hR : Rp noEx w b o h S) {hd0 sz0 : Nat} (hI : Iv C S hd0 sz0 fun _ _ => False) (hst : S.st = []) (hsz : sz0 = S.tr.length) (hop : ∀ h ∈ S.lo, ∀ L u v, S.H h = some (L, u, v) → Open S.tr L) :
    Calls Try.prog 30 #[Pt b] w fun e w' => e = .returned (.tuple #[]) ∧ ∃ S' : WS, Nx tTig noEx w b o S' w' ∧ Iv C S' hd0 sz0 (fun _ _ => False) ∧ S'.lo = [] ∧ S'.nv = S.nv ∧ S'.tr = S.tr ∧ S'.st = S.st ∧ S'.hd = S.hd ∧ S'.rest = S.rest ∧ S'.clash = S.clash := by
  refine (V30_calls (some ⟨b, 0, none⟩) w (fun v w' => v = .tuple #[] ∧ ∃ S' : WS, Nx tTig noEx w b o S' w' ∧ Iv C S' hd0 sz0 (fun _ _ => False) ∧ S'.lo = [] ∧ S'.nv = S.nv ∧ S'.tr = S.tr ∧ S'.st = S.st ∧ S'.hd = S.hd ∧ S'.rest = S.rest ∧ S'.clash = S.clash) ?_).mono fun e w' ⟨v, he, hv, hk⟩ => ⟨by rw [he, hv], hk⟩
  unfold V30
  let o0 : Nat → Int := fun i => if i < w.heap.size then o i else -9
  have ha0 : Ag w o o0 := fun i hi => if_pos hi
  have hn0 : ∀ i, w.heap.size ≤ i → o0 i = -9 := fun i hi => if_neg (by omega)
  have hR := hR.reown ha0
  refine alc_at fun bx w1 hbx hBx k1 => ?_
  have hR1 := hR.keep0 k1
  have z1 := k1.size
  have hbo : o0 bx = -9 := hn0 bx (by omega)
  refine ldP_of (x := some ⟨b, 0, none⟩) (hBx.cell 0) (nn_of (ldC_of (x := h.ll.1) (n := h.ll.2.1) (c := h.ll.2.2) (by rw [add_mk]; exact hR1.self.cell 5) ?_))
  have hlol := pts_len hR1.lo
  have hll := hI.wf.lol.1
  refine lp_of (fun s W => ∃ (i : Nat) (S1 : WS), s.1 = (i : Int) ∧ i ≤ S.lo.length ∧ Nx tAtt noEx w1 b o0 S1 W ∧ Iv C { S1 with lo := S.lo.drop i } hd0 sz0 (fun _ _ => False) ∧ S1.lo = S.lo ∧ S1.nv = S.nv ∧ S1.tr = S.tr ∧ S1.st = S.st ∧ S1.hd = S.hd ∧ S1.rest = S.rest ∧ S1.clash = S.clash ∧ (∀ h ∈ S.lo.drop i, S1.H h = S.H h)) (fun s _ => (S.lo.length - s.1).toNat)
    ⟨0, S, rfl, Nat.zero_le _, Nx.same hR1 (Keep.refl _ _), hI, rfl, rfl, rfl, rfl, rfl, rfl, rfl, fun _ _ => rfl⟩ ?_
  rintro ⟨i', ⟨⟩⟩ W ⟨i, S1, rfl, hi, ⟨o1, h1, hRW, haW, kW⟩, hI1, e1, e2, e3, e4, e5, e6, e7, hHH⟩
  simp only []
  have hBW : Blk W bx [Pt b] 22 := hBx.keep kW (by intro hh; have hh' : tAtt (o0 bx) := hh; rw [hbo] at hh'; unfold tAtt at hh'; omega)
  have hLoW : Own W 74 1 h.ll.1 h.ll.2.1 h.ll.2.2 (S.lo.map Pt) := hR1.lo.keep kW fun j hj hh => by
    have hh' : tAtt (o0 j) := hh
    rw [hR1.loO j hj] at hh'
    unfold tAtt at hh'; omega
  refine pif_of (fun hlt => ?_) fun hge => ?_
  · have hlt : i < S.lo.length := by have : (i : Int) < (h.ll.2.1 : Int) := by simpa using hlt
                                     omega
    rw [wrap_nat i (by omega)]
    obtain ⟨hb, hhb⟩ := getE hlt
    have hdrop : S.lo.drop i = hb :: S.lo.drop (i + 1) := by
      rw [List.drop_eq_getElem_cons hlt]
      rw [List.getElem?_eq_getElem hlt] at hhb
      injection hhb with hhb
      rw [hhb]
    have hnn : (S.lo.drop i).Nodup := hI1.lop.1
    rw [hdrop, List.nodup_cons] at hnn
    obtain ⟨L, u, v, hHb⟩ := hI1.wf.lol.2 hb (by show hb ∈ S.lo.drop i; rw [hdrop]; simp)
    have hHb : S1.H hb = some (L, u, v) := hHb
    have hHb0 : S.H hb = some (L, u, v) := by rw [← hHH hb (by rw [hdrop]; simp)]; exact hHb
    obtain ⟨hLw, hLn, hLl⟩ := hI1.wf.hel hb L u v hHb
    have hLw : ∀ x ∈ L, Wi S1.nv x := hLw
    obtain ⟨eo, lp, ln, lc, hBh, hRd, hO⟩ := hRW.hel hb L u v hHb
    have hcW : Cons S1.tr := hI1.wf.cons
    have hnvW : S1.nv ≤ 1048576 := hI1.wf.nvb
    refine ⟨fun _ W' => ∃ (S2 : WS), Nx tAtt noEx w1 b o0 S2 W' ∧ Iv C { S2 with lo := S.lo.drop (i + 1) } hd0 sz0 (fun _ _ => False) ∧ S2.lo = S.lo ∧ S2.nv = S.nv ∧ S2.tr = S.tr ∧ S2.st = S.st ∧ S2.hd = S.hd ∧ S2.rest = S.rest ∧ S2.clash = S.clash ∧ (∀ h ∈ S.lo.drop (i + 1), S2.H h = S.H h), ?_, ?_⟩
    rotate_left
    · rintro ⟨⟩ W' ⟨S2, a1, a2, a3, a4, a5, a6, a7, a8, a9, a10⟩
      exact ⟨⟨i + 1, S2, rfl, hlt, a1, a2, a3, a4, a5, a6, a7, a8, a9, a10⟩, by omega⟩
    refine hLoW.ix (by omega) (by omega) fun bq hbq => ?_
    have hLoW' := hLoW
    rw [hbq] at hLoW'
    refine ldP_of (x := some ⟨hb, 0, none⟩) (by rw [hLoW'.cell _ (by omega), Int.toNat_natCast, Nat.mul_one, List.getElem?_map, hhb]; rfl) ?_
    refine nn_of (ldC_of (x := lp) (n := ln) (c := lc) (by rw [add_mk]; exact hBh.cell 0) ?_)
    refine cl_of ok48 (has48 hRW hcW hnvW hBW hRd hLw hLl) fun e w3 ⟨r, he, hr, k3⟩ => ⟨r, he, ?_⟩
    have hRW3 := hRW.keep0 k3
    have l1 : (S.lo.drop (i + 1)).Nodup := hnn.2
    have l2 : ∀ y ∈ S.lo.drop (i + 1), y ∈ S.lo.drop i := fun y hy => by rw [hdrop]; exact List.mem_cons_of_mem _ hy
    have l3 : ∀ y ∈ S.lo.drop i, y = hb ∨ y ∈ S.lo.drop (i + 1) := fun y hy => by rw [hdrop] at hy; exact List.mem_cons.1 hy
    have z1W : w1.heap.size ≤ W.heap.size := kW.size
    refine pif_of (fun hn => ?_) fun hn => ?_
    · have hn : r = false := by simpa using hn
      subst hn
      have hno : ¬ ∃ x ∈ L, lv S1.tr x = 1 := fun hh => by cases hr.2 hh
      refine ldP_of (x := some ⟨b, 0, none⟩) ((hBW.keep0 k3).cell 0) ?_
      refine cl_of ok43 (attach43 hRW3 hcW hnvW hHb hLw hLl fun i ids hi => (hI1.wf.lsl i ids hi).1) fun e w4 ⟨v4, he4, hA⟩ => ?_
      have h2 := nf_two hLn (e3 ▸ hop hb (List.mem_of_getElem? hhb) L u v hHb0) hno
      rcases hA with ⟨hlt2, _⟩ | ⟨x, y, r, hnf, rfl, o4, h4, hR4, ha4, k4⟩
      · omega
      refine ⟨true, he4, { S1 with H := upd S1.H hb (L, x, y), ls := addW (addW S1.ls (idxN x) hb) (idxN y) hb }, ⟨o4, h4, hR4, haW.trans ha4 (Nat.le_trans z1W k3.size), (kW.then0 k3).trans k4 fun j hj hh => ?_⟩, ?_, e1, e2, e3, e4, e5, e6, e7, fun h' hh => ?_⟩
      · have hh' : tAtt (o1 j) := hh
        rw [haW j hj] at hh'
        exact hh'
      · have hxm : x ∈ nf S1.tr L := by rw [hnf]; simp
        have hym : y ∈ nf S1.tr L := by rw [hnf]; simp
        have hnn2 : (nf S1.tr L).Nodup := List.Nodup.sublist List.filter_sublist hLn
        have hne : x ≠ y := fun e => by
          rw [hnf, e] at hnn2
          exact (List.nodup_cons.1 hnn2).1 (by simp)
        obtain ⟨x1, x2⟩ := List.mem_filter.1 hxm
        obtain ⟨y1, y2⟩ := List.mem_filter.1 hym
        exact hI1.att (S := { S1 with lo := S.lo.drop i }) (lo' := S.lo.drop (i + 1)) hHb x1 y1 hne (by simpa using x2) (by simpa using y2) (hI1.lop.2 hb (by show hb ∈ S.lo.drop i; rw [hdrop]; simp)) hRW.ll l1 l2 l3 hnn.1
      · show upd S1.H hb (L, x, y) h' = S.H h'
        unfold upd
        rw [if_neg (fun (e : h' = hb) => hnn.1 (by rw [← e]; exact hh))]
        exact hHH h' (l2 h' hh)
    · have hn : r = true := by simpa using hn
      subst hn
      obtain ⟨x, hx, hx1⟩ := hr.1 rfl
      exact ⟨S1, ⟨o1, h1, hRW3, haW, kW.then0 k3⟩, hI1.drop (S := { S1 with lo := S.lo.drop i }) hHb hx hx1 (e4.trans hst) (by rw [hsz]; exact (congrArg List.length e3).symm) l1 l2 l3, e1, e2, e3, e4, e5, e6, e7, fun h' hh => hHH h' (l2 h' hh)⟩
  · have hge : i = S.lo.length := by have : ¬ (i : Int) < (h.ll.2.1 : Int) := by simpa using hge
                                     omega
    subst hge
    refine ldP_of (x := some ⟨b, 0, none⟩) (hBW.cell 0) (nn_of ?_)
    simp only [add_mk, Nat.zero_add, Nat.add_zero]
    refine st_of hRW.self (by simp) rfl fun w5 hB k5 z5 => ⟨trivial, { S1 with lo := [] }, ⟨o1, { h1 with ll := (none, 0, 0) }, ?_, ?_, ?_⟩, ?_, rfl, e2, e3, e4, e5, e6, e7⟩
    · have kk : Keep (fun j => (fun t : Int => t = -6) (o1 j)) W w5 := k5.mono fun j _ hj => by rw [show j = b from hj]; exact hRW.selfO
      exact hRW.turnSelf k5 (S' := { S1 with lo := [] }) (h' := { h1 with ll := (none, 0, 0) }) hB ⟨rfl, rfl, rfl, rfl⟩ ⟨rfl, rfl, rfl, rfl⟩ (Rp.own (T := fun t => t = -6) hRW.st hRW.stO kk (by decide)) hRW.stO (Own.nil _ _ _) (fun j ⟨a, hh, _⟩ => by cases hh)
    · exact (fun j hj => (haW j (by omega)).trans (ha0 j hj))
    · refine ((k1.none (S := fun i => tTig (o i))).trans kW fun j hj hh => ?_).trans k5 fun j hj hh => ?_
      · have hh' : tAtt (o0 j) := hh
        rw [ha0 j hj] at hh'
        show tTig (o j)
        unfold tAtt at hh'; unfold tTig; omega
      · have hjb : j = b := hh
        show tTig (o j)
        have h6 := hR.selfO
        rw [← ha0 j hj, hjb, h6]
        exact Or.inr (Or.inr (Or.inr rfl))
    · have hI2 := hI1
      rw [List.drop_length] at hI2
      exact hI2
end Go.Proofs.Ytjpblaenebodlaa.Wt
