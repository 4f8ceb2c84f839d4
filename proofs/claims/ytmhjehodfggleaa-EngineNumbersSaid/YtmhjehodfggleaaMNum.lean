/- An Engine in memory: Forget and Model whole. -/
import Derived.Test.YtmhjehodfggleaaMEng15
import Derived.Test.YtmhjehodfggleaaProg
import Derived.Test.YtmhjehodfggleaaMVcL
set_option linter.unusedVariables false
set_option linter.unusedSimpArgs false
set_option linter.unusedSectionVars false
set_option maxRecDepth 100000
namespace Go.Proofs.Ytmhjehodfggleaa.Eng
open Go Go.Proofs.Ytmhjehodfggleaa.Vc Go.Proofs.Ytmhjehodfggleaa.T
open Go.Proofs.Ytmhjehodfggleaa.Apart (RdL own_rdl wrap_nat getE own_len take_snoc Sl sv New LL)
open Go.Proofs.Ytmhjehodfggleaa.Lits (fl fl_iff Ans ans_of formedP idx idx_range idx_inj indexP Td)
open Go.Proofs.Ytmhjehodfggleaa.Arn (Ar AR words off cw Got)
open Go.Proofs.Ytmhjehodfggleaa.Trail (TI Tr St valA levA reaA ownB Moved TLaid above upto freeA implA Open ent)
open Go.Proofs.Ytmhjehodfggleaa.Learn (En RdE LSpec Askd shr Learnt Shrunk)

section
variable {ex : Nat → Prop} {w w' : World} {b : Nat} {o : Nat → Int} {h : Hs} {S : ES}
/-- the learnt ones' list turned where it lies -/
theorem Rp.leTo (hR : Rp ex w b o h S) {g : Sl} {ks : List Nat} (kall : Keep (fun j => tLe (o j)) w w') (hs : Blk w' b [I S.nv, Pt h.st, Pt h.T.t, sv h.oo, sv h.ll, sv h.ss, sv g, .iface 55 (Pt h.bk), I S.head, .bool S.rest, .bool S.clash, .bool S.dead, I S.bad] 64)
    (hO : Own w' 68 1 g.1 g.2.1 g.2.2 (ks.map fun k => Pt (h.hb k))) (hg : ∀ j, ob g.1 j → o j = -7) : Rp ex w' b o { h with le := g } { S with learnts := ks } := by
  have nT : ∀ {t : Int}, t ≠ -1 → t ≠ -7 → ¬ tLe t := fun a b hh => by rcases hh with h | h; exact a h; exact b h
  have z := kall.size
  exact ⟨hs, hR.selfO, Rp.arK (h := h) (S := S) (T := tLe) hR kall (nT (by decide) (by decide)), Rp.trK (h := h) (S := S) (T := tLe) hR kall (nT (by decide) (by decide)), hR.trO,
    own_K (T := tLe) hR.oo hR.ooO kall (nT (by decide) (by decide)), hR.ooO, own_K (T := tLe) hR.out hR.outO kall (nT (by decide) (by decide)), hR.outO, hR.hhl, hR.lsl,
    Rp.innK (h := h) (S := S) (T := tLe) hR kall (fun i hi => ⟨hi, nT (by omega) (by omega)⟩), Rp.innOK (h := h) (S := S) (T := tLe) hR kall,
    own_K (T := tLe) hR.sh hR.shO kall (nT (by decide) (by decide)), hR.shO, hO, hg,
    blk_K (T := tLe) hR.bk hR.bkO kall (nT (by decide) (by decide)), hR.bkO, own_K (T := tLe) hR.lg hR.lgO kall (nT (by decide) (by decide)), hR.lgO, hR.gll,
    Rp.glK (h := h) (S := S) (T := tLe) hR kall (nT (by decide) (by decide)), Rp.heldK (h := h) (S := S) (T := tLe) hR kall (nT (by decide) (by decide)) (nT (by decide) (by decide)), hR.inj, fun j hj => hR.nrm j (by omega)⟩
end
def lockB (S : ES) (d : Hd) : Bool := reasonB S d || decidedB S d
def goneS (S : ES) (k : Nat) (d : Hd) : ES := { S with H := S.H.set k { d with gone := true } }
def forgetT (S : ES) (i k : Nat) (d : Hd) : ES := noteS { dropAr (goneS S k d) d.at_ with learnts := S.learnts.eraseIdx i } true d.ls
/-- Forget's answer, and what it leaves -/
def forget (S : ES) (i : Int) : Int × ES :=
  if S.rest = false then (3, S) else if i < 0 ∨ (S.learnts.length : Int) ≤ i then (2, S)
  else match S.learnts[i.toNat]? with
  | none => (2, S)
  | some k => match S.H[k]? with
    | none => (2, S)
    | some d => if lockB S d = true then (160, S) else (0, forgetT S i.toNat k d)
theorem forget8 {w : World} {b : Nat} {o : Nat → Int} {h : Hs} {S : ES} (hR : Rp noEx w b o h S) (hW : WfS S) (hrs : ∀ x ∈ entS S, x.rs.length ≤ 1048576) (hw : (words S.ar.cs).length ≤ 17592186044416) (hlog : S.log.length ≤ 1099511627776) (i : Int) :
    Calls Try.prog 8 #[Pt b, I i] w fun e w' => e = .returned (I (forget S i).1) ∧ Nx tMine noEx w b o h (forget S i).2 w' := by
  refine (V8_calls (some ⟨b, 0, none⟩) i w (fun v w' => v = I (forget S i).1 ∧ Nx tMine noEx w b o h (forget S i).2 w') ?_).mono fun e w' ⟨v, he, hv, hk⟩ => ⟨by rw [he, hv], hk⟩
  unfold V8
  have hln := pts_len hR.le
  have stop : ∀ {W : World} {x : Int}, Keep None w W → forget S i = (x, S) → (I x = I (forget S i).1 ∧ Nx tMine noEx w b o h (forget S i).2 W) := fun {W x} k e => by
    rw [e]; exact ⟨rfl, (Nx.refl hR).keep0 k⟩
  refine nn_of (ldB_of (x := S.rest) (by rw [add_mk]; exact hR.self.cell 9) ?_)
  cases hr : S.rest with
  | false => exact pif_t rfl (stop (Keep.refl _ _) (by unfold forget; rw [if_pos hr]))
  | true =>
    have f1 : forget S i = (if i < 0 ∨ (S.learnts.length : Int) ≤ i then ((2 : Int), S) else match S.learnts[i.toNat]? with
      | none => ((2 : Int), S)
      | some k => match S.H[k]? with
        | none => ((2 : Int), S)
        | some d => if lockB S d = true then ((160 : Int), S) else ((0 : Int), forgetT S i.toNat k d)) := by unfold forget; rw [if_neg (by rw [hr]; decide)]
    refine pif_f rfl ?_
    have c6 : ∀ {V : World} {h1 : Hs} {S1 : ES}, Rp noEx V b o h1 S1 → ∀ {K : Option Addr → Nat → Nat → Prop}, K h1.le.1 h1.le.2.1 h1.le.2.2 → ldC V ((⟨b, 0, none⟩ : Addr).add 6) K := fun {V h1 S1} hRV {K} hK => by
      rw [add_mk]; exact ldC_of (x := h1.le.1) (n := h1.le.2.1) (c := h1.le.2.2) (hRV.self.cell 6) hK
    by_cases hneg : i < 0
    · rw [decide_eq_true hneg]
      exact gd_f rfl (gd_f rfl (pif_t rfl (stop (Keep.refl _ _) (by rw [f1, if_pos (Or.inl hneg)]))))
    rw [decide_eq_false hneg]
    refine gd_t rfl (nn_of (gd_t rfl (c6 hR ?_)))
    by_cases hbig : (S.learnts.length : Int) ≤ i
    · exact pif_t (by have : i ≥ (h.le.2.1 : Int) := by omega
                      show cond false true (decide (i ≥ (h.le.2.1 : Int))) = true
                      rw [decide_eq_true this]; rfl) (stop (Keep.refl _ _) (by rw [f1, if_pos (Or.inr hbig)]))
    rw [if_neg (by omega)] at f1
    refine pif_f (by have : ¬ i ≥ (h.le.2.1 : Int) := by omega
                     show cond false true (decide (i ≥ (h.le.2.1 : Int))) = false
                     rw [decide_eq_false this]; rfl) (nn_of (c6 hR ?_))
    obtain ⟨j, rfl⟩ : ∃ j : Nat, i = j := ⟨i.toNat, by omega⟩
    rw [Int.toNat_natCast] at f1
    have hj : j < S.learnts.length := by omega
    obtain ⟨k, hk⟩ := getE hj
    obtain ⟨d, hd⟩ := getE (hW.le k (List.mem_of_getElem? hk))
    rw [hk] at f1
    dsimp only at f1
    rw [hd] at f1
    dsimp only at f1
    obtain ⟨hdw, hdn, hdl, hdat⟩ := hW.hl k d hd
    have hle := hR.le
    refine hR.le.ix (by omega) (by omega) fun bq hbq => ?_
    have hle' := hle
    rw [hbq] at hle'
    refine ldP_of (x := some ⟨h.hb k, 0, none⟩) (by rw [hle'.cell _ (by omega), Int.toNat_natCast, Nat.mul_one, List.getElem?_map, hk]; rfl) ?_
    refine cl_of ok36 (reason36 hR hd (by omega) hrs hw) fun e w3 ⟨he, k3⟩ => ⟨_, he, ?_⟩
    have hR3 := hR.keep0 k3
    have go : ∀ {W : World}, Keep None w W → lockB S d = false → nn (some ⟨h.hb k, 0, none⟩) fun p28 => Vc.st W ((p28.add 4).add 0) (.bool true) fun w6 =>
        nn (some ⟨b, 0, none⟩) fun p29 => ldP (World.drew w6) (p29.add 1) fun x30 => nn (some ⟨h.hb k, 0, none⟩) fun p31 => ldI .i64 (World.drew w6) (p31.add 0) fun x32 =>
        Vc.cl Try.prog 38 [.pointer x30, .int .i64 x32] (World.drew w6) fun e34 w7 => ∃ x33 : Int, e34 = Ending.returned (.int .i64 x33) ∧
        nn (some ⟨b, 0, none⟩) fun p36 => ldC w7 (p36.add 6) fun x37 x37n x37c =>
        Vc.cl Try.prog 39 [.slice x37 x37n x37c, .int .i64 (j : Int), .int .i64 (IntKind.wrap .i64 ((j : Int) + 1))] w7 fun e39 w8 => ∃ (x38 : Option Addr) (x38n x38c : Nat), e39 = Ending.returned (.slice x38 x38n x38c) ∧
        nn (some ⟨b, 0, none⟩) fun p40 => Vc.st w8 ((p40.add 6).add 0) (.slice x38 x38n x38c) fun w9 =>
        nn (some ⟨b, 0, none⟩) fun p41 => ldV (World.drew w9) (p41.add 7) fun x42 => nn (some ⟨h.hb k, 0, none⟩) fun p43 => ldC (World.drew w9) (p43.add 1) fun x44 x44n x44c =>
        nkA (x42) = true ∧
        Vc.cl Try.prog 40 [.slice x44 x44n x44c] (World.drew w9) fun e46 w10 => ∃ (x45 : Option Addr) (x45n x45c : Nat), e46 = Ending.returned (.slice x45 x45n x45c) ∧
        (ldV w10 (p41.add 7) fun x47 => ((x47 : Value) = x42)) ∧
        clM Try.prog (x42) "depot/engine.note" [.agg #[.bool true, .slice x45 x45n x45c]] w10 fun e48 w11 => e48 = Ending.returned (.tuple #[]) ∧
        (Value.int .i64 0 = I (forget S (j : Int)).1 ∧ Nx tMine noEx w b o h (forget S (j : Int)).2 w11) := by
      intro W kW hlk
      have f2 : forget S (j : Int) = (0, forgetT S j k d) := by rw [f1, if_neg (by rw [hlk]; decide)]
      rw [f2]
      have hRW := hR.keep0 kW
      have zW := kW.size
      obtain ⟨hB, ho12, _, _⟩ := hRW.held k d hd
      refine nn_of ?_
      rw [add_mk, add_mk]
      refine st_of hB (by simp) rfl fun w6 hB6 k6 z6 => ?_
      have hR6 := hRW.setHeld (d' := { d with gone := true }) hd rfl k6 hB6 z6
      have kd6 : Keep None w6 w6.drew := (Keep.refl _ _).drew
      have hR6d := hR6.keep0 kd6
      have hd6 : (S.H.set k { d with gone := true })[k]? = some { d with gone := true } := List.getElem?_set_self (List.getElem?_eq_some_iff.1 hd).1
      have kk6 : Keep (fun i => tMine (o i)) w w6 := (kW.none (S := fun i => tMine (o i))).trans k6 fun q _ hq => by
        have hq' : q = h.hb k := hq
        show o q ≠ -9
        rw [hq', ho12]; decide
      refine nn_of (ldP_of (x := some ⟨h.st, 0, none⟩) (by rw [add_mk]; exact hR6d.self.cell 1) (nn_of (ldI_of (x := d.at_) (by rw [add_mk]; exact (hR6d.held k _ hd6).1.cell 0) ?_)))
      refine cl_of ok38 (dropA hR6d d.at_) fun e w7 ⟨x33, he, hN7⟩ => ⟨_, he, ?_⟩
      obtain ⟨o7, h7, r7, a7, k7, e7, n7⟩ := hN7.nine (by decide)
      have z6d : w6.drew.heap.size = w6.heap.size := rfl
      have a07 : Ag w o o7 := fun q hq => a7 q (by omega)
      have kk7 := keep_nine (T := tAr) (o1 := o) (by decide) (kk6.then0 kd6) (Ag.refl _ _) k7
      have z7 := k7.size
      have hle7 := r7.le
      have hln7 : S.learnts.length = h7.le.2.1 := pts_len hle7
      have hlel := hW.lel
      refine nn_of (ldC_of (x := h7.le.1) (n := h7.le.2.1) (c := h7.le.2.2) (by rw [add_mk]; exact r7.self.cell 6) ?_)
      rw [wrap_nat j (by omega)]
      have h39 := delete39 (f := fun k => Pt (h7.hb k)) (ks := S.learnts) (i := j) (fun _ => rfl) hle7 (by omega) (by omega)
      refine cl_of ok39 h39 fun e w8 ⟨he, hO8, k8⟩ => ⟨_, _, _, he, nn_of ?_⟩
      have kt8 : Keep (fun q => (fun t : Int => t = -7) (o7 q)) w7 w8 := k8.mono fun q _ hq => r7.leO q hq
      have hs8 := blk_K (T := fun t => t = -7) r7.self r7.selfO kt8 (by decide)
      rw [add_mk, add_mk]
      refine st_of hs8 (by simp) rfl fun w9 hs9 k9 z9 => ?_
      have k79 : Keep (fun q => tLe (o7 q)) w7 w9 := (show Keep (fun q => tLe (o7 q)) w7 w8 from kt8.mono fun q _ hq => Or.inr hq).trans k9 fun q _ hq => by
        have hq' : q = b := hq
        show tLe (o7 q)
        rw [hq', r7.selfO]; exact Or.inl rfl
      have hO9 := hO8.keep k9 fun q hq hh => by
        have hh' : q = b := hh
        have := r7.leO q hq
        rw [hh', r7.selfO] at this; exact absurd this (by decide)
      have r9 := r7.leTo (g := (h7.le.1, h7.le.2.1 - 1, h7.le.2.2)) (ks := S.learnts.eraseIdx j) k79 hs9 hO9 r7.leO
      have kk9 := keep_nine (T := tLe) (by intro hh; rcases hh with hh | hh <;> omega) kk7 a07 k79
      have z79 := k79.size
      have kd9 : Keep None w9 w9.drew := (Keep.refl _ _).drew
      have r9d := r9.keep0 kd9
      have hd9 : (dropAr (goneS S k d) d.at_).H[k]? = some { d with gone := true } := hd6
      obtain ⟨hB9, _, hC9, hC9o⟩ := r9d.held k _ hd9
      have hC9l := hC9.len
      rw [show h7.hb k = h.hb k by rw [e7]] at hB9
      refine nn_of ⟨_, by rw [add_mk]; exact r9d.self.cell 7, nn_of (ldC_of (x := (h7.hl k).1) (n := (h7.hl k).2.1) (c := (h7.hl k).2.2) (by rw [add_mk]; exact hB9.cell 1) ⟨rfl, ?_⟩)⟩
      refine cl_of ok40 (clone40 hC9 (by have : d.ls.length = (h7.hl k).2.1 := hC9l; show (h7.hl k).2.1 ≤ _; omega)) fun e w10 ⟨v, he, kp, kc, hv, hO10, hkn, k10⟩ => ?_
      subst hv
      refine ⟨kp, _, kc, he, ⟨_, by rw [add_mk]; exact (r9d.keep0 k10).self.cell 7, rfl⟩, ?_⟩
      have r10 := r9d.keep0 k10
      refine noteM r10 (dr := true) (own_rdl hO10) (by show d.ls.length ≤ _; omega) hlog fun w11 hN11 => ⟨rfl, rfl, ?_⟩
      obtain ⟨o11, h11, r11, a11, k11, e11, n11⟩ := hN11.nine (by intro hh; rcases hh with hh | hh | hh <;> omega)
      have kd10 := kd9.then0 k10
      have z10 := kd10.size
      exact ⟨o11, h11, r11, a07.trans a11 (by omega), keep_nine (T := tNote) (by intro hh; rcases hh with hh | hh | hh <;> omega) (kk9.then0 kd10) a07 k11, e11.trans e7⟩
    cases hrb : reasonB S d with
    | true =>
      exact gd_f rfl (pif_t rfl (stop k3 (by rw [f1, if_pos (by unfold lockB; rw [hrb]; rfl)])))
    | false =>
      refine gd_t rfl (cl_of ok37 (decided37 hR3 hd (by omega) fun x hx => wi_fl hR.nv (hdw x hx)) fun e w4 ⟨he, k4⟩ => ⟨_, he, ?_⟩)
      cases hdb : decidedB S d with
      | true => exact pif_t rfl (stop (k3.then0 k4) (by rw [f1, if_pos (by unfold lockB; rw [hrb, hdb]; rfl)]))
      | false => exact pif_f rfl (go (k3.then0 k4) (by unfold lockB; rw [hrb, hdb]; rfl))
end Go.Proofs.Ytmhjehodfggleaa.Eng

/- Formulas in memory: tautologies, formed formulas. -/
set_option linter.unusedVariables false
set_option linter.unusedSimpArgs false
set_option linter.unusedSectionVars false
set_option maxRecDepth 100000
namespace Go.Proofs.Ytmhjehodfggleaa.Eng
open Go Go.Proofs.Ytmhjehodfggleaa.Vc Go.Proofs.Ytmhjehodfggleaa.T
open Go.Proofs.Ytmhjehodfggleaa.Apart (RdL own_rdl wrap_nat getE own_len take_snoc Sl sv New)
open Go.Proofs.Ytmhjehodfggleaa.Lits (fl fl_iff idx idx_inj idx_range Ans ans_of indexP formedP tidyP Td Srt)

def taut (c : List Int) : Prop := ∃ x ∈ c, -x ∈ c
theorem taut_adj {L : List Int} (hs : Srt L) (hf : ∀ x ∈ L, fl x = true) : (∃ i x, L[i + 1]? = some x ∧ L[i]? = some (-x)) ↔ taut L := by
  constructor
  · rintro ⟨i, x, h1, h2⟩
    exact ⟨x, List.mem_of_getElem? h1, List.mem_of_getElem? h2⟩
  · rintro ⟨x, hx, hnx⟩
    obtain ⟨y, hy0, hy, hny⟩ : ∃ y : Int, 0 < y ∧ y ∈ L ∧ -y ∈ L := by
      have h0 := (fl_iff.1 (hf x hx)).1
      by_cases hlt : x < 0
      · exact ⟨-x, by omega, hnx, by rw [Int.neg_neg]; exact hx⟩
      · exact ⟨x, by omega, hx, hnx⟩
    obtain ⟨i, hi, hie⟩ := List.mem_iff_getElem.1 hy
    obtain ⟨j, hj, hje⟩ := List.mem_iff_getElem.1 hny
    have hp := List.pairwise_iff_getElem.1 hs
    have e1 : idx (-y) = idx y + 1 := by unfold idx; split <;> split <;> omega
    have hij : j = i + 1 := by
      rcases Nat.lt_trichotomy j (i + 1) with h | h | h
      · rcases Nat.lt_or_eq_of_le (Nat.le_of_lt_succ h) with h' | h'
        · have := hp j i hj hi h'
          rw [hie, hje] at this; omega
        · subst h'
          rw [hie] at hje; omega
      · exact h
      · have h1 := hp i (i + 1) hi (by omega) (by omega)
        have h2 := hp (i + 1) j (by omega) hj h
        rw [hie] at h1; rw [hje] at h2; omega
    subst hij
    exact ⟨i, -y, (List.getElem?_eq_getElem hj).trans (by rw [hje]), (List.getElem?_eq_getElem hi).trans (by rw [hie, Int.neg_neg])⟩
theorem taut42 {w : World} {p : Option Addr} {n c : Nat} {cs : List Int} (hRd : RdL w p n cs) (hn : n ≤ 17592186044416) (hf : ∀ x ∈ cs, fl x = true) :
    Calls Try.prog 26 #[.slice p n c] w fun e w' => ∃ r : Bool, e = .returned (.bool r) ∧ (r = true ↔ taut cs) ∧ Keep None w w' := by
  refine (V26_calls p n c w (fun v w' => ∃ r : Bool, v = .bool r ∧ (r = true ↔ taut cs) ∧ Keep None w w') ?_).mono fun e w' ⟨v, he, r, hv, hk⟩ => ⟨r, by rw [he, hv], hk⟩
  unfold V26
  refine cl_of ok27 (tidyP hRd hn) fun e w1 ⟨v, L, he, hT, g, gc, hv, hO, hg, k1⟩ => ⟨_, _, _, he.trans (congrArg Ending.returned hv), ?_⟩
  have hLf : ∀ x ∈ L, fl x = true := fun x hx => ((hT.mem x).1 hx).2
  have hm : ∀ x, x ∈ L ↔ x ∈ cs := fun x => ⟨fun h => ((hT.mem x).1 h).1, fun h => (hT.mem x).2 ⟨h, hf x h⟩⟩
  have htt : taut L ↔ taut cs := by unfold taut; simp only [hm]
  have hRL := own_rdl hO
  have hLl : L.length ≤ 2097153 := hT.len
  refine lp_of (fun s W => ∃ i : Nat, s.1 = (i + 1 : Nat) ∧ (i = 0 ∨ i + 1 ≤ L.length) ∧ Keep None w1 W ∧ ∀ j x, j < i → L[j + 1]? = some x → L[j]? ≠ some (-x)) (fun s _ => (L.length - s.1).toNat) ⟨0, rfl, Or.inl rfl, Keep.refl _ _, fun j x hj => by omega⟩ ?_
  rintro ⟨i', ⟨⟩⟩ W ⟨i, rfl, hi, kW, hv⟩
  simp only [] at hv ⊢
  have kd : Keep None w1 W.drew := kW.drew
  refine pif_of (fun hlt => ?_) fun hge => ?_
  · have hlt : i + 1 < L.length := by have := of_decide_eq_true hlt
                                      omega
    refine (hRL.keep0 kW).ix hlt fun a x hx ha => ldI_of (by first | exact ha | simpa using ha) ?_
    have e1 : IntKind.wrap .i64 (((i + 1 : Nat) : Int) - 1) = (i : Nat) := by rw [IntKind.wrap_i64]; omega
    rw [e1]
    refine (hRL.keep0 kd).ix (by omega) fun a2 y hy ha2 => ldI_of ha2 ?_
    have hyf := fl_iff.1 (hLf y (List.mem_of_getElem? hy))
    have e2 : IntKind.wrap .i64 (0 - y) = -y := by rw [IntKind.wrap_i64]; omega
    rw [e2]
    refine pif_of (fun h => ?_) fun h => ?_
    · have h : x = -y := by simpa using h
      exact ⟨true, rfl, ⟨fun _ => htt.1 ((taut_adj hT.srt hLf).1 ⟨i, x, hx, by rw [hy, h, Int.neg_neg]⟩), fun _ => rfl⟩, k1.then0 kd⟩
    · have h : x ≠ -y := by simpa using h
      rw [wrap_nat (i + 1) (by omega)]
      refine ⟨⟨i + 1, rfl, Or.inr (by omega), kd, fun j z hj hz hh => ?_⟩, by omega⟩
      rcases Nat.lt_or_eq_of_le (Nat.le_of_lt_succ hj) with hj | rfl
      · exact hv j z hj hz hh
      · rw [hx] at hz; injection hz with hz; subst hz
        rw [hy] at hh; injection hh with hh; omega
  · have hge : ¬ i + 1 < L.length := by intro hh; have := of_decide_eq_false hge
                                        omega
    refine ⟨false, rfl, ⟨fun hh => (by cases hh), fun hh => ?_⟩, k1.then0 kW⟩
    obtain ⟨j, x, h1, h2⟩ := (taut_adj hT.srt hLf).2 (htt.2 hh)
    have hjl := (List.getElem?_eq_some_iff.1 h1).1
    exact absurd h2 (hv j x (by omega) h1)
theorem within41 {w : World} {p : Option Addr} {n c : Nat} {cs : List Int} (hRd : RdL w p n cs) (hn : n ≤ 17592186044416) {nv : Nat} (hnv : nv ≤ 1048576) :
    Calls Try.prog 54 #[.slice p n c, I nv] w fun e w' => ∃ r : Bool, e = .returned (.bool r) ∧ (r = true ↔ ∀ x ∈ cs, Wi nv x) ∧ Keep None w w' := by
  refine (V54_calls p n c nv w (fun v w' => ∃ r : Bool, v = .bool r ∧ (r = true ↔ ∀ x ∈ cs, Wi nv x) ∧ Keep None w w') ?_).mono fun e w' ⟨v, he, r, hv, hk⟩ => ⟨r, by rw [he, hv], hk⟩
  unfold V54
  have hll := hRd.len
  refine cl_of ok50 (Arn.sound50 hRd hn) fun e w1 ⟨r, he, hr, k1⟩ => ⟨r, he, ?_⟩
  refine pif_of (fun hq => ⟨false, rfl, ⟨fun hh => (by cases hh), fun hh => ?_⟩, k1⟩) fun hq => ?_
  · rw [hr.2 fun x hx => wi_fl hnv (hh x hx)] at hq; cases hq
  have hf := hr.1 (by simpa using hq)
  refine lp_of (fun s W => ∃ i : Nat, s.1 = (i : Int) ∧ i ≤ n ∧ Keep None w W ∧ ∀ x ∈ cs.take i, Wi nv x) (fun s _ => (n - s.1).toNat) ⟨0, rfl, Nat.zero_le _, k1, fun x hx => by simp at hx⟩ ?_
  rintro ⟨i', ⟨⟩⟩ W ⟨i, rfl, hi, kW, hv⟩
  simp only [] at hv ⊢
  refine pif_of (fun hlt => ?_) fun hge => ?_
  · have hlt : i < n := by simpa using hlt
    rw [wrap_nat i (by omega)]
    refine (hRd.keep0 kW).ix hlt fun a x hx ha => ldI_of ha ?_
    have hxc := List.mem_of_getElem? hx
    have h3 := fl_iff.1 (hf x hxc)
    refine cl_of ok30 (Trail.var52 x _ (by omega)) fun e w2 ⟨he, hw2⟩ => ⟨_, he, ?_⟩
    subst hw2
    have ev : (if 1 ≤ x.natAbs ∧ x.natAbs ≤ 1048576 then (x.natAbs : Int) else 0) = x.natAbs := if_pos ⟨by omega, by omega⟩
    rw [ev]
    refine pif_of (fun hq => ⟨false, rfl, ⟨fun hh => (by cases hh), fun hh => ?_⟩, kW⟩) fun hq => ?_
    · have hq := of_decide_eq_true hq
      have := hh x hxc
      unfold Wi at this
      omega
    · have hq := of_decide_eq_false hq
      refine ⟨⟨i + 1, rfl, hlt, kW, fun y hy => ?_⟩, by omega⟩
      rw [take_snoc hx] at hy
      rcases List.mem_append.1 hy with hy | hy
      · exact hv y hy
      · rw [List.mem_singleton.1 hy]
        unfold Wi
        omega
  · have hge : i = n := by simp at hge; omega
    subst hge
    rw [← hll, List.take_length] at hv
    exact ⟨true, rfl, ⟨fun _ => hv, fun _ => rfl⟩, kW⟩
/-- a list of lists wherever it lies, in blocks of B -/
structure RdC (B : Nat → Prop) (w : World) (p : Option Addr) (n : Nat) (css : List (List Int)) : Prop where
  len : css.length = n
  cell : ∀ (i : Nat) (es : List Int), css[i]? = some es → ∃ (a : Addr) (q : Option Addr) (m c : Nat), p = some a ∧ w.cell? (a.add i) = some (.slice q m c) ∧ RdL w q m es ∧ B a.block ∧ (∀ j, ob q j → 0 < m → B j) ∧ (q = none → c = 0)
theorem rdl_keep {S : Nat → Prop} {w w' : World} {q : Option Addr} {m : Nat} {es : List Int} (h : RdL w q m es) (hk : Keep S w w') (hs : ∀ j, ob q j → 0 < m → ¬ S j) : RdL w' q m es := by
  by_cases hm : m = 0
  · subst hm
    have := List.eq_nil_of_length_eq_zero h.len
    subst this
    exact ⟨rfl, fun i x hx => by simp at hx⟩
  · exact h.keep hk fun j hj => hs j hj (by omega)
section
variable {B : Nat → Prop} {w w' : World} {p : Option Addr} {n : Nat} {css : List (List Int)}
theorem blk_add (a : Addr) (i : Nat) : (a.add i).block = a.block := by unfold Addr.add; split <;> rfl
theorem RdC.keep {S : Nat → Prop} (h : RdC B w p n css) (hk : Keep S w w') (hs : ∀ i, B i → ¬ S i) : RdC B w' p n css :=
  ⟨h.len, fun i es hi => by
    obtain ⟨a, q, m, c, h1, h2, h3, h4, h5⟩ := h.cell i es hi
    exact ⟨a, q, m, c, h1, hk.cell h2 (by rw [blk_add]; exact hs _ h4), rdl_keep h3 hk fun j hj h0 => hs j (h5.1 j hj h0), h4, h5⟩⟩
theorem RdC.keep0 (h : RdC B w p n css) (hk : Keep None w w') : RdC B w' p n css := h.keep hk fun _ _ h => h
theorem RdC.ix (h : RdC B w p n css) {i : Nat} {es : List Int} (hx : css[i]? = some es) {K : Addr → Prop} (hk : ∀ a q m c, w.cell? a = some (.slice q m c) → RdL w q m es → (∀ j, ob q j → 0 < m → B j) → (q = none → c = 0) → K a) : ixA p n (i : Int) 1 K := by
  have hl := h.len
  have hi := (List.getElem?_eq_some_iff.1 hx).1
  obtain ⟨a, q, m, c, rfl, h2, h3, _, h5, h6⟩ := h.cell i es hx
  refine ⟨by omega, by omega, ?_⟩
  show K _
  rw [Nat.mul_one, Int.toNat_natCast]
  exact hk _ q m c h2 h3 h5 h6
end
def FormedF (nv : Int) (css : List (List Int)) : Prop := 0 ≤ nv ∧ nv ≤ 1048576 ∧ ∀ c ∈ css, ∀ x ∈ c, Wi nv.toNat x
theorem formed23 {B : Nat → Prop} {w : World} {nv : Int} {p : Option Addr} {n c : Nat} {css : List (List Int)} (hC : RdC B w p n css) (hn : n ≤ 17592186044416) (hl : ∀ es ∈ css, es.length ≤ 17592186044416) :
    Calls Try.prog 22 #[.agg #[I nv, .slice p n c]] w fun e w' => ∃ r : Bool, e = .returned (.bool r) ∧ (r = true ↔ FormedF nv css) ∧ Keep None w w' := by
  refine (V22_calls nv p n c w (fun v w' => ∃ r : Bool, v = .bool r ∧ (r = true ↔ FormedF nv css) ∧ Keep None w w') ?_).mono fun e w' ⟨v, he, r, hv, hk⟩ => ⟨r, by rw [he, hv], hk⟩
  unfold V22
  have hll := hC.len
  refine alc_at fun b2 w1 hb2 hB2 k1 => ?_
  refine ldI_of (x := nv) (by rw [add_mk]; exact hB2.cell 0) ?_
  have cont : nv < 0 ∨ nv > 1048576 → ¬ FormedF nv css := fun h hf => by obtain ⟨a, b, _⟩ := hf; omega
  refine gd_of (fun h => ?_) fun h => ?_
  · have h0 : ¬ nv < 0 := by simpa using h
    have hd : decide (nv < 0) = false := decide_eq_false h0
    refine ldI_of (x := nv) (by rw [add_mk]; exact hB2.cell 0) ?_
    rw [hd]
    refine pif_of (fun hq => ⟨false, rfl, ⟨fun hh => (by cases hh), fun hh => absurd hh (cont (Or.inr (by simpa using hq)))⟩, k1⟩) fun hq => ?_
    have hle : nv ≤ 1048576 := by have : ¬ nv > 1048576 := by simpa using hq
                                  omega
    obtain ⟨m, rfl⟩ := Int.eq_ofNat_of_zero_le (show 0 ≤ nv by omega)
    refine ldC_of (x := p) (n := n) (c := c) (by rw [add_mk]; exact hB2.cell 1) ?_
    refine lp_of (fun s W => ∃ i : Nat, s.1 = (i : Int) ∧ i ≤ n ∧ Keep None w1 W ∧ ∀ es ∈ css.take i, ∀ x ∈ es, Wi m x) (fun s _ => (n - s.1).toNat) ⟨0, rfl, Nat.zero_le _, Keep.refl _ _, fun x hx => by simp at hx⟩ ?_
    rintro ⟨i', ⟨⟩⟩ W ⟨i, rfl, hi, kW, hv⟩
    simp only [] at hv ⊢
    refine pif_of (fun hlt => ?_) fun hge => ?_
    · have hlt : i < n := by simpa using hlt
      rw [wrap_nat i (by omega)]
      obtain ⟨es, hes⟩ := getE (show i < css.length by omega)
      have hm := List.mem_of_getElem? hes
      refine ((hC.keep0 k1).keep0 kW).ix hes fun a q k cc ha hRd _ _ => ldC_of ha (ldI_of (x := (m : Nat)) (by rw [add_mk]; exact (hB2.keep0 kW).cell 0) ?_)
      refine cl_of ok54 (within41 hRd (by rw [← hRd.len]; exact hl es hm) (nv := m) (by omega)) fun e w3 ⟨r, he, hr, k3⟩ => ⟨r, he, ?_⟩
      refine pif_of (fun hq => ⟨false, rfl, ⟨fun hh => (by cases hh), fun hh => ?_⟩, (k1.then0 kW).then0 k3⟩) fun hq => ?_
      · rw [hr.2 (hh.2.2 es hm)] at hq; cases hq
      · refine ⟨⟨i + 1, rfl, hlt, kW.then0 k3, fun y hy => ?_⟩, by omega⟩
        rw [List.take_add_one, hes] at hy
        rcases List.mem_append.1 hy with hy | hy
        · exact hv y hy
        · rw [List.mem_singleton.1 hy]; exact hr.1 (by simpa using hq)
    · have hge : i = n := by simp at hge; omega
      subst hge
      rw [← hll, List.take_length] at hv
      exact ⟨true, rfl, ⟨fun _ => ⟨by omega, hle, hv⟩, fun _ => rfl⟩, k1.then0 kW⟩
  · have h0 : nv < 0 := by simpa using h
    exact pif_t (by rw [decide_eq_true h0]; rfl) ⟨false, rfl, ⟨fun hh => (by cases hh), fun hh => absurd hh (cont (Or.inl h0))⟩, k1⟩
end Go.Proofs.Ytmhjehodfggleaa.Eng

/- An Engine of a formula, in plain; one clause of it in memory. -/
set_option linter.unusedVariables false
set_option linter.unusedSimpArgs false
set_option linter.unusedSectionVars false
set_option maxRecDepth 100000
namespace Go.Proofs.Ytmhjehodfggleaa.Eng
open Go Go.Proofs.Ytmhjehodfggleaa.Vc Go.Proofs.Ytmhjehodfggleaa.T
open Go.Proofs.Ytmhjehodfggleaa.Apart (RdL own_rdl wrap_nat getE own_len take_snoc Sl sv New LL)
open Go.Proofs.Ytmhjehodfggleaa.Lits (fl fl_iff Ans ans_of formedP idx idx_range idx_inj indexP Td Srt)
open Go.Proofs.Ytmhjehodfggleaa.Arn (Ar AR words off cw Got)
open Go.Proofs.Ytmhjehodfggleaa.Trail (TI Tr St valA levA reaA ownB Moved TLaid above upto freeA implA Open ent)
open Go.Proofs.Ytmhjehodfggleaa.Learn (En RdE LSpec Askd shr Learnt Shrunk)

/-- a literal put in its place -/
def insL (x : Int) : List Int → List Int
  | [] => [x]
  | y :: ys => if idx x < idx y then x :: y :: ys else if x = y then y :: ys else y :: insL x ys
def tidyL (c : List Int) : List Int := c.foldr insL []
theorem mem_insL (x z : Int) : ∀ L : List Int, z ∈ insL x L ↔ z = x ∨ z ∈ L
  | [] => by simp [insL]
  | y :: ys => by
    unfold insL
    split
    · simp
    · split
      · rename_i _ h; subst h; simp
      · rw [List.mem_cons, mem_insL x z ys, List.mem_cons]
        constructor
        · rintro (h | h | h)
          · exact Or.inr (Or.inl h)
          · exact Or.inl h
          · exact Or.inr (Or.inr h)
        · rintro (h | h | h)
          · exact Or.inr (Or.inl h)
          · exact Or.inl h
          · exact Or.inr (Or.inr h)
theorem srt_insL {x : Int} (hx : fl x = true) : ∀ {L : List Int}, Srt L → (∀ y ∈ L, fl y = true) → Srt (insL x L)
  | [], _, _ => List.pairwise_singleton _ _
  | y :: ys, hs, hf => by
    unfold Srt at hs
    rw [List.pairwise_cons] at hs
    unfold insL
    split
    · rename_i h
      refine List.pairwise_cons.2 ⟨fun z hz => ?_, List.pairwise_cons.2 hs⟩
      rcases List.mem_cons.1 hz with rfl | hz
      · exact h
      · have := hs.1 z hz; omega
    · split
      · exact List.pairwise_cons.2 hs
      · rename_i h1 h2
        refine List.pairwise_cons.2 ⟨fun z hz => ?_, srt_insL hx hs.2 fun z hz => hf z (List.mem_cons_of_mem _ hz)⟩
        rcases (mem_insL x z ys).1 hz with rfl | hz
        · have : idx y ≠ idx z := fun e => h2 (idx_inj hx (hf y (by simp)) e.symm)
          omega
        · exact hs.1 z hz
theorem tidyL_td {c : List Int} (hf : ∀ x ∈ c, fl x = true) : Td (· ∈ c) (tidyL c) := by
  have hm : ∀ (c : List Int) (x : Int), x ∈ tidyL c ↔ x ∈ c := fun c x => by
    induction c with
    | nil => simp [tidyL]
    | cons y ys ih =>
      show x ∈ insL y (tidyL ys) ↔ _
      rw [mem_insL, ih, List.mem_cons]
  refine ⟨?_, fun x => ⟨fun h => ⟨(hm c x).1 h, hf x ((hm c x).1 h)⟩, fun h => (hm c x).2 h.1⟩⟩
  induction c with
  | nil => exact List.Pairwise.nil
  | cons y ys ih => exact srt_insL (hf y (by simp)) (ih fun x hx => hf x (List.mem_cons_of_mem _ hx)) fun z hz => hf z (List.mem_cons_of_mem _ ((hm ys z).1 hz))
def tautB (c : List Int) : Bool := c.any fun x => decide (-x ∈ c)
theorem tautB_iff (c : List Int) : tautB c = true ↔ taut c := by
  unfold tautB taut
  rw [List.any_eq_true]
  constructor
  · rintro ⟨x, hx, h⟩; exact ⟨x, hx, of_decide_eq_true h⟩
  · rintro ⟨x, hx, h⟩; exact ⟨x, hx, decide_eq_true h⟩
def tidHd (S : ES) (c : List Int) : Hd := ⟨atN S, tidyL c, 0, 0, false⟩
/-- one clause of the formula -/
def addC (S : ES) (c : List Int) : ES :=
  if tautB c = true then putAr S c
  else if (tidyL c).length < 2 then { putAr S c with H := S.H ++ [tidHd S c], short := S.short ++ [S.H.length] }
  else watchS { putAr S c with H := S.H ++ [tidHd S c] } S.H.length (tidHd S c) ((tidyL c).headD 0) ((tidyL c).tail.headD 0)
def newE (nv : Nat) (css : List (List Int)) : ES :=
  css.foldl addC ⟨nv, ⟨[], []⟩, [], [], List.replicate (2 * nv) [], [], [], [], [], 0, false, false, false, 0⟩
def tSh (t : Int) : Prop := t = -1 ∨ t = -6
/-- a clause put to those of one literal or none -/
theorem pushSh {ex : Nat → Prop} {w : World} {b : Nat} {o : Nat → Int} {h : Hs} {S : ES} (hR : Rp ex w b o h S) {k : Nat} (hll : S.short.length ≤ 8796093022208) {K : World → Prop} (hK : ∀ w', Nx tSh ex w b o h { S with short := S.short ++ [k] } w' → K w') :
    ldC w ((⟨b, 0, none⟩ : Addr).add 5) fun x51 x51n x51c => alc w [Pt (h.hb k)] 68 fun b52 w12 =>
      ∃ (x53 : Option Addr) (x53n x53c : Nat), ∃ w13 : World, (Builtin.append_ #[59, 59] 59 #[.slice x51 x51n x51c, .slice (some (⟨b52, 0, none⟩ : Addr)) 1 1]).run Try.prog w12 = .ok (.slice x53 x53n x53c) w13 ∧
      Vc.st w13 (((⟨b, 0, none⟩ : Addr).add 5).add 0) (.slice x53 x53n x53c) K := by
  refine ldC_of (x := h.ss.1) (n := h.ss.2.1) (c := h.ss.2.2) (by rw [add_mk]; exact hR.self.cell 5) (alc_at fun b52 w1 hb hB k1 => ?_)
  have z1 := k1.size
  have hR1 := hR.keep0 k1
  have hln := pts_len hR.sh
  refine app_of2 (e := 68) (sz := 1) (z := .pointer none) (B := 8) Try.underlying59 (by kernel_rfl) rfl (by omega) hR1.sh hB.news1 (fun u hu => ?_) (by simp only [maxLen]; omega) (by omega) fun p' c' w2 hO hd => ?_
  · simp only [List.mem_singleton] at hu; subst hu; rfl
  have kk : Keep (fun j => o j = -6) w1 w2 := by
    rcases hd with ⟨_, _, _, kk⟩ | ⟨_, kk⟩
    · exact kk.mono fun j _ hj => hR.shO j hj
    · exact kk.none
  have z2 := kk.size
  have pc : ∀ j, ob p' j → (j < w.heap.size ∧ o j = -6) ∨ w1.heap.size ≤ j := fun j hj => by
    rcases hd with ⟨e, _, _, _⟩ | ⟨e, _⟩
    · rw [e] at hj; exact Or.inl ⟨hR.sh.lt j hj, hR.shO j hj⟩
    · exact Or.inr (e j hj)
  have hs2 := blk_K (T := fun t => t = -6) hR1.self hR.selfO kk (by decide)
  rw [add_mk, add_mk]
  refine st_of hs2 (by simp) rfl fun w3 hs3 k3 z3 => hK w3 ?_
  have hbl := hR.self.lt
  have kall : Keep (fun j => tSh (o j)) w w3 := ((k1.none (S := fun j => tSh (o j))).trans kk fun j _ hh => Or.inr hh).trans k3 fun j _ hh => by
    have hj : j = b := hh
    show tSh (o j)
    rw [hj, hR.selfO]; exact Or.inl rfl
  have lo : ∀ {j : Nat}, o j ≠ -9 → j < w.heap.size := fun {j} hj => by
    apply Classical.byContradiction
    intro hn
    exact hj (hR.nrm j (by omega))
  have nT : ∀ {t : Int}, t ≠ -1 → t ≠ -6 → ¬ tSh t := fun a b hh => by rcases hh with h | h; exact a h; exact b h
  let o' : Nat → Int := fun j => open Classical in if j < w.heap.size then o j else if ob p' j then -6 else -9
  have e0 : ∀ {j : Nat} {t : Int}, t ≠ -9 → o j = t → o' j = t := fun {j} {t} hne hj => by
    show (open Classical in if j < w.heap.size then o j else _) = t
    rw [if_pos (lo (by rw [hj]; exact hne))]; exact hj
  have har := hR.arK (T := tSh) kall (nT (by decide) (by decide))
  have hhd := Rp.heldK (h := h) (S := S) (T := tSh) hR kall (nT (by decide) (by decide)) (nT (by decide) (by decide))
  have hgl := Rp.glK (h := h) (S := S) (T := tSh) hR kall (nT (by decide) (by decide))
  refine ⟨o', { h with ss := (p', h.ss.2.1 + 1, c') }, ⟨hs3, e0 (by decide) hR.selfO, ar_grow har (fun i hi => ⟨e0 (by decide) hi.1, hi.2⟩) (fun i hi => hi.2), Rp.trK (h := h) (S := S) (T := tSh) hR kall (nT (by decide) (by decide)), fun j hj => e0 (by decide) (hR.trO j hj),
    own_K (T := tSh) hR.oo hR.ooO kall (nT (by decide) (by decide)), fun j hj => e0 (by decide) (hR.ooO j hj), own_K (T := tSh) hR.out hR.outO kall (nT (by decide) (by decide)), fun j hj => e0 (by decide) (hR.outO j hj), hR.hhl, hR.lsl,
    Rp.innK (h := h) (S := S) (T := tSh) hR kall (fun i hi => ⟨hi, nT (by omega) (by omega)⟩), fun i x hx j hj => ⟨e0 (by omega) (Rp.innOK (h := h) (S := S) (T := tSh) hR kall i x hx j hj).1, (Rp.innOK (h := h) (S := S) (T := tSh) hR kall i x hx j hj).2⟩,
    ?_, fun j hj => ?_, own_K (T := tSh) hR.le hR.leO kall (nT (by decide) (by decide)), fun j hj => e0 (by decide) (hR.leO j hj),
    blk_K (T := tSh) hR.bk hR.bkO kall (nT (by decide) (by decide)), e0 (by decide) hR.bkO, own_K (T := tSh) hR.lg hR.lgO kall (nT (by decide) (by decide)), fun j hj => e0 (by decide) (hR.lgO j hj), hR.gll,
    fun i x y hx hy => ⟨(hgl i x y hx hy).1, fun j hj => ⟨e0 (by decide) ((hgl i x y hx hy).2 j hj).1, ((hgl i x y hx hy).2 j hj).2⟩⟩,
    fun i d' hd' => by
      obtain ⟨h1, h2, h3, h4⟩ := hhd i d' hd'
      exact ⟨h1, e0 (by decide) h2, h3, fun j hj => ⟨e0 (by decide) (h4 j hj).1, (h4 j hj).2⟩⟩, hR.inj, fun j hj => ?_⟩, fun j hj => if_pos hj, kall, rfl⟩
  · show Own w3 _ 1 p' (h.ss.2.1 + 1) c' ((S.short ++ [k]).map fun k => Pt (h.hb k))
    rw [List.map_append]
    refine hO.keep k3 fun j hj hh => ?_
    have hjb : j = b := hh
    rcases pc j hj with h1 | h1
    · rw [hjb, hR.selfO] at h1; exact absurd h1.2 (by decide)
    · omega
  · show (open Classical in if j < w.heap.size then o j else if ob p' j then -6 else -9) = -6
    rcases pc j hj with h1 | h1
    · rw [if_pos h1.1]; exact h1.2
    · rw [if_neg (by omega), if_pos hj]
  · show (open Classical in if j < w.heap.size then o j else if ob p' j then -6 else -9) = -9
    rw [if_neg (by omega), if_neg fun hh => by rcases pc j hh with h1 | h1; omega; have := hO.lt j hh; omega]
end Go.Proofs.Ytmhjehodfggleaa.Eng

/- An Engine in plain: what holds of its lists, kept by a clause more. -/
set_option linter.unusedVariables false
set_option linter.unusedSimpArgs false
set_option linter.unusedSectionVars false
set_option maxRecDepth 100000
namespace Go.Proofs.Ytmhjehodfggleaa.Eng
open Go Go.Proofs.Ytmhjehodfggleaa.Vc Go.Proofs.Ytmhjehodfggleaa.T
open Go.Proofs.Ytmhjehodfggleaa.Apart (RdL own_rdl wrap_nat getE own_len take_snoc Sl sv New LL)
open Go.Proofs.Ytmhjehodfggleaa.Lits (fl fl_iff Ans ans_of formedP idx idx_range idx_inj indexP Td Srt)
open Go.Proofs.Ytmhjehodfggleaa.Trail (TI Tr St valA levA reaA ownB Moved TLaid above upto freeA implA Open ent)

section
variable {S : ES} {d : Hd}
theorem WfS.lt1 (h : WfS S) {i k : Nat} {ids : List Nat} (hi : S.lists[i]? = some ids) (hk : k ∈ ids) : k < S.H.length := by
  obtain ⟨d, hd, _⟩ := h.w1 i k ids hi hk
  exact (List.getElem?_eq_some_iff.1 hd).1
theorem snoc_get {α : Type} {l : List α} {x y : α} {i : Nat} (h : (l ++ [x])[i]? = some y) : (i < l.length ∧ l[i]? = some y) ∨ (i = l.length ∧ x = y) := by
  by_cases hi : i < l.length
  · rw [List.getElem?_append_left hi] at h; exact Or.inl ⟨hi, h⟩
  · have : i = l.length := by
      have := (List.getElem?_eq_some_iff.1 h).1
      rw [List.length_append] at this
      simp only [List.length_singleton] at this; omega
    subst this
    rw [List.getElem?_append_right (Nat.le_refl _), Nat.sub_self] at h
    simp only [List.getElem?_cons_zero, Option.some.injEq] at h
    exact Or.inr ⟨rfl, h⟩
theorem WfS.snocH (h : WfS S) (hd : (∀ x ∈ d.ls, Wi S.nv x) ∧ d.ls.Nodup ∧ d.ls.length ≤ 2097153 ∧ 0 ≤ d.at_) (hcl : S.H.length + 1 ≤ 8796093022208) : WfS { S with H := S.H ++ [d] } := by
  refine ⟨⟨h.nv, fun k d' hk => ?_, by show (S.H ++ [d]).length ≤ _; rw [List.length_append]; exact hcl, h.ll, h.nd, fun i k ids hi hk => ?_⟩, fun k hk => ?_, fun k hk => ?_, h.shl, h.lel⟩
  · rcases snoc_get hk with ⟨_, h1⟩ | ⟨_, rfl⟩
    · exact h.hl k d' h1
    · exact hd
  · obtain ⟨d1, hd1, r⟩ := h.w1 i k ids hi hk
    exact ⟨d1, by show (S.H ++ [d])[k]? = _; rw [List.getElem?_append_left (h.lt1 hi hk)]; exact hd1, r⟩
  · have := h.sh k hk; show k < (S.H ++ [d]).length; rw [List.length_append]; omega
  · have := h.le k hk; show k < (S.H ++ [d]).length; rw [List.length_append]; omega
/-- a clause that stands in no list yet, watched -/
theorem WfS.watch (h : WfS S) {k : Nat} (hd : S.H[k]? = some d) (hno : ∀ (i : Nat) (ids : List Nat), S.lists[i]? = some ids → k ∉ ids) {a c : Int} (ha : a ∈ d.ls) (hc : c ∈ d.ls) (hne : a ≠ c) : WfS (watchS S k d a c) := by
  have hdd := h.hl k d hd
  have hkl := (List.getElem?_eq_some_iff.1 hd).1
  have haw := hdd.1 a ha
  have hcw := hdd.1 c hc
  have hia : idxN a ≠ idxN c := fun e => hne (idxN_inj h.nv haw hcw e)
  have hil : ∀ {l : Int}, Wi S.nv l → idxN l < S.lists.length := fun hl => by rw [h.ll]; exact idxN_lt hl
  have hH : ∀ (j : Nat), (watchS S k d a c).H[j]? = if k = j then some { d with e0 := a, e1 := c } else S.H[j]? := fun j => by
    show (S.H.set k _)[j]? = _
    rw [List.getElem?_set]
    by_cases hkj : k = j
    · rw [if_pos hkj, if_pos hkl, if_pos hkj]
    · rw [if_neg hkj, if_neg hkj]
  have hL : ∀ (i : Nat) (js : List Nat), (watchS S k d a c).lists[i]? = some js → ∃ ids, S.lists[i]? = some ids ∧ (js = ids ∨ (js = ids ++ [k] ∧ (i = idxN a ∨ i = idxN c))) := fun i js hi => by
    obtain ⟨La, hLa⟩ := getE (hil haw)
    obtain ⟨Lc, hLc⟩ := getE (hil hcw)
    have e1 : listAt S (idxN a) = La := by unfold listAt; rw [hLa]; rfl
    have hi' : ((S.lists.set (idxN a) (listAt S (idxN a) ++ [k])).set (idxN c) (((S.lists.set (idxN a) (listAt S (idxN a) ++ [k]))[idxN c]?.getD []) ++ [k]))[i]? = some js := hi
    rw [List.getElem?_set_ne hia, hLc, e1] at hi'
    rw [List.getElem?_set] at hi'
    split at hi'
    · rename_i he
      split at hi'
      · injection hi' with hi'
        exact ⟨Lc, by rw [← he]; exact hLc, Or.inr ⟨hi'.symm, Or.inr he.symm⟩⟩
      · cases hi'
    · rw [List.getElem?_set] at hi'
      split at hi'
      · rename_i he
        split at hi'
        · injection hi' with hi'
          exact ⟨La, by rw [← he]; exact hLa, Or.inr ⟨hi'.symm, Or.inl he.symm⟩⟩
        · cases hi'
      · exact ⟨js, hi', Or.inl rfl⟩
  refine ⟨⟨h.nv, fun j d' hj => ?_, by show (S.H.set k _).length ≤ _; rw [List.length_set]; exact h.cl, by show ((S.lists.set _ _).set _ _).length = _; rw [List.length_set, List.length_set]; exact h.ll, fun i js hi => ?_, fun i j js hi hj => ?_⟩, fun j hj => ?_, fun j hj => ?_, h.shl, h.lel⟩
  · rw [hH] at hj
    split at hj
    · injection hj with hj; rw [← hj]; exact hdd
    · exact h.hl j d' hj
  · obtain ⟨ids, h1, rfl | ⟨rfl, _⟩⟩ := hL i js hi
    · exact h.nd i _ h1
    · exact List.nodup_append.2 ⟨h.nd i ids h1, by simp, fun x hx y hy => by rw [List.mem_singleton.1 hy]; exact fun e => hno i ids h1 (e ▸ hx)⟩
  · rw [hH]
    obtain ⟨ids, h1, hh⟩ := hL i js hi
    have old : j ∈ ids → ∃ d1, (if k = j then some { d with e0 := a, e1 := c } else S.H[j]?) = some d1 ∧ d1.e0 ∈ d1.ls ∧ d1.e1 ∈ d1.ls ∧ d1.e0 ≠ d1.e1 ∧ (i = idxN d1.e0 ∨ i = idxN d1.e1) := fun hm => by
      rw [if_neg (fun e : k = j => hno i ids h1 (by rw [e]; exact hm))]
      exact h.w1 i j ids h1 hm
    rcases hh with rfl | ⟨rfl, hw⟩
    · exact old hj
    · rcases List.mem_append.1 hj with hj | hj
      · exact old hj
      · have ej := List.mem_singleton.1 hj
        subst ej
        exact ⟨_, if_pos rfl, ha, hc, hne, hw⟩
  · show j < (S.H.set k _).length; rw [List.length_set]; exact h.sh j hj
  · show j < (S.H.set k _).length; rw [List.length_set]; exact h.le j hj
theorem WfS.ar (h : WfS S) (A : Arn.Ar) : WfS { S with ar := A } := ⟨⟨h.nv, h.hl, h.cl, h.ll, h.nd, h.w1⟩, h.sh, h.le, h.shl, h.lel⟩
theorem WfS.toShort (h : WfS S) {k : Nat} (hk : k < S.H.length) (hl : S.short.length + 1 ≤ 8796093022208) : WfS { S with short := S.short ++ [k] } :=
  ⟨⟨h.nv, h.hl, h.cl, h.ll, h.nd, h.w1⟩, fun j hj => by
    rcases List.mem_append.1 hj with hj | hj
    · exact h.sh j hj
    · rw [List.mem_singleton.1 hj]; exact hk, h.le, by show (S.short ++ [k]).length ≤ _; rw [List.length_append]; exact hl, h.lel⟩
theorem nodup_srt {L : List Int} (h : Srt L) : L.Nodup := h.imp fun {a b} hab e => by rw [e] at hab; omega
theorem addC_wf (h : WfS S) {c : List Int} (hc : ∀ x ∈ c, Wi S.nv x) (hcl : S.H.length + 1 ≤ 8796093022208) (hsl : S.short.length + 1 ≤ 8796093022208) : WfS (addC S c) := by
  have hf : ∀ x ∈ c, fl x = true := fun x hx => wi_fl h.nv (hc x hx)
  have hT := tidyL_td hf
  have hdp : (∀ x ∈ (tidHd S c).ls, Wi S.nv x) ∧ (tidHd S c).ls.Nodup ∧ (tidHd S c).ls.length ≤ 2097153 ∧ 0 ≤ (tidHd S c).at_ :=
    ⟨fun x hx => hc x ((hT.mem x).1 hx).1, nodup_srt hT.srt, hT.len, by show 0 ≤ atN S; unfold atN; omega⟩
  have h1 : WfS (putAr S c) := h.ar _
  unfold addC
  split
  · exact h1
  · have h2 : WfS { putAr S c with H := S.H ++ [tidHd S c] } := WfS.snocH (S := putAr S c) h1 hdp hcl
    have hlen : S.H.length < (S.H ++ [tidHd S c]).length := by rw [List.length_append]; simp
    split
    · exact WfS.toShort (S := { putAr S c with H := S.H ++ [tidHd S c] }) h2 hlen hsl
    · rename_i hge
      refine h2.watch (k := S.H.length) (d := tidHd S c) (by show (S.H ++ [tidHd S c])[S.H.length]? = _; rw [List.getElem?_append_right (Nat.le_refl _), Nat.sub_self]; rfl) (fun i ids hi hk => by have := h.lt1 hi hk; omega) ?_ ?_ ?_
      all_goals (
        have e : ∃ x y zs, tidyL c = x :: y :: zs := by
          cases ht : tidyL c with
          | nil => rw [ht] at hge; simp at hge
          | cons x xs => cases xs with
            | nil => rw [ht] at hge; simp at hge
            | cons y zs => exact ⟨x, y, zs, rfl⟩
        obtain ⟨x, y, zs, e⟩ := e
        have els : (tidHd S c).ls = x :: y :: zs := e
        have hnd := hdp.2.1
        rw [els] at hnd
        rw [e])
      · rw [els]; simp
      · rw [els]; simp
      · rw [List.nodup_cons] at hnd
        show x ≠ y
        intro e; subst e; exact hnd.1 (by simp)
end
end Go.Proofs.Ytmhjehodfggleaa.Eng

/- An Engine in memory: the formula's clauses put into it. -/
set_option linter.unusedVariables false
set_option linter.unusedSimpArgs false
set_option linter.unusedSectionVars false
set_option maxRecDepth 100000
namespace Go.Proofs.Ytmhjehodfggleaa.Eng
open Go Go.Proofs.Ytmhjehodfggleaa.Vc Go.Proofs.Ytmhjehodfggleaa.T
open Go.Proofs.Ytmhjehodfggleaa.Apart (RdL own_rdl wrap_nat getE own_len take_snoc Sl sv New LL)
open Go.Proofs.Ytmhjehodfggleaa.Lits (fl fl_iff Ans ans_of formedP idx idx_range idx_inj indexP Td Srt)
open Go.Proofs.Ytmhjehodfggleaa.Arn (Ar AR words off cw Got)
open Go.Proofs.Ytmhjehodfggleaa.Trail (TI Tr St valA levA reaA ownB Moved TLaid above upto freeA implA Open ent)

def NewL (b2 b25 : Nat) (w7 : World) (R : Value → World → Prop) : Prop :=
        ldC w7 ((⟨b2, 0, none⟩ : Addr).add 1) fun x27 x27n x27c =>
        lp (σ := Int × Unit) (fun s30 w8 k29 => match s30 with
          | (v28, _) =>
          pif (decide (v28 < (x27n : Int))) (
            jn (σ := Unit) (fun k32 =>
              ixA x27 x27n v28 1 fun p35 =>
              ldC w8 p35 fun x36 x36n x36c =>
              ldP w8 ((⟨b25, 0, none⟩ : Addr).add 1) fun x38 =>
              cl Try.prog 25 [.pointer x38, .slice x36 x36n x36c, .bool false] w8 fun e41 w10 => ∃ x39 : Int, ∃ x40 : Int, e41 = Ending.returned (.tuple #[.int .i64 x39, .int .i64 x40]) ∧
              cl Try.prog 26 [.slice x36 x36n x36c] w10 fun e44 w11 => ∃ x43 : Bool, e44 = Ending.returned (.bool x43) ∧
              pif x43 (
                k32 (()) w11) (
                cl Try.prog 27 [.slice x36 x36n x36c] w11 fun e47 w12 => ∃ (x46 : Option Addr) (x46n x46c : Nat), e47 = Ending.returned (.slice x46 x46n x46c) ∧
                alc w12 [.int .i64 x39, .slice x46 x46n x46c, .int .i64 0, .int .i64 0, .bool false] 71 fun b48 w13 =>
                ldC w13 ((⟨b48, 0, none⟩ : Addr).add 1) fun x50 x50n x50c =>
                pif (decide ((x50n : Int) < 2)) (
                  ldC w13 ((⟨b25, 0, none⟩ : Addr).add 5) fun x52 x52n x52c =>
                  alc w13 [.pointer (some (⟨b48, 0, none⟩ : Addr))] 68 fun b53 w14 =>
                  ∃ (x54 : Option Addr) (x54n x54c : Nat), ∃ w15 : World, (Builtin.append_ #[59, 59] 59 #[.slice x52 x52n x52c, .slice (some (⟨b53, 0, none⟩ : Addr)) 1 1]).run Try.prog w14 = .ok (.slice x54 x54n x54c) w15 ∧
                  st w15 (((⟨b25, 0, none⟩ : Addr).add 5).add 0) (.slice x54 x54n x54c) fun w16 =>
                  k32 (()) w16) (
                  ldC (World.drew w13) ((⟨b48, 0, none⟩ : Addr).add 1) fun x55 x55n x55c =>
                  ixA x55 x55n 0 1 fun p56 =>
                  ldI .i64 (World.drew w13) p56 fun x57 =>
                  ldC (World.drew w13) ((⟨b48, 0, none⟩ : Addr).add 1) fun x58 x58n x58c =>
                  ixA x58 x58n 1 1 fun p59 =>
                  ldI .i64 (World.drew w13) p59 fun x60 =>
                  cl Try.prog 28 [.pointer (some (⟨b25, 0, none⟩ : Addr)), .pointer (some (⟨b48, 0, none⟩ : Addr)), .int .i64 x57, .int .i64 x60] (World.drew w13) fun e61 w17 => e61 = Ending.returned (.tuple #[]) ∧
                  k32 (()) w17))) fun s33 w9 => match s33 with
            | (_) =>
            k29 ((IntKind.wrap .i64 (v28 + 1)), ()) w9) (
            R (.tuple #[.pointer (some (⟨b25, 0, none⟩ : Addr)), .int .i64 0]) w8)) (0, ()) w7
/-- a step that may hold clauses more -/
def Nx2 (w : World) (b : Nat) (o : Nat → Int) (S' : ES) (w' : World) : Prop := ∃ o' h', Rp noEx w' b o' h' S' ∧ Ag w o o' ∧ Keep (fun i => tMine (o i)) w w'
theorem addC_ar (S : ES) (c : List Int) : (addC S c).ar = (putAr S c).ar ∧ (addC S c).nv = S.nv ∧ (addC S c).H.length ≤ S.H.length + 1 ∧ (addC S c).short.length ≤ S.short.length + 1 := by
  have hl : (S.H ++ [tidHd S c]).length = S.H.length + 1 := by rw [List.length_append]; rfl
  unfold addC
  split
  · exact ⟨rfl, rfl, Nat.le_succ _, Nat.le_succ _⟩
  · split
    · exact ⟨rfl, rfl, by show (S.H ++ [tidHd S c]).length ≤ _; omega, by show (S.short ++ [S.H.length]).length ≤ _; rw [List.length_append]; exact Nat.le_refl _⟩
    · exact ⟨rfl, rfl, by show ((S.H ++ [tidHd S c]).set _ _).length ≤ _; rw [List.length_set]; omega, Nat.le_succ _⟩
/-- what holds of an Engine behind i clauses -/
structure NI (S : ES) (i : Nat) : Prop where
  wf : WfS S
  h : S.H.length ≤ i
  s : S.short.length ≤ i
  a : S.ar.cs.length ≤ i
  w : (words S.ar.cs).length ≤ i * 1048577
theorem NI.step {S : ES} {i : Nat} (h : NI S i) {c : List Int} (hc : ∀ x ∈ c, Wi S.nv x) (hl : c.length ≤ 1048576) (hi : i < 1048576) : NI (addC S c) (i + 1) := by
  obtain ⟨e1, e2, e3, e4⟩ := addC_ar S c
  refine ⟨addC_wf h.wf hc (by have := h.h; omega) (by have := h.s; omega), by have := h.h; omega, by have := h.s; omega, ?_, ?_⟩
  · rw [e1]; show (S.ar.cs ++ [c]).length ≤ _; rw [List.length_append]; have := h.a; simp only [List.length_singleton]; omega
  · rw [e1]; show (words (S.ar.cs ++ [c])).length ≤ _; rw [Arn.words_snoc, List.length_append]; have := h.w; simp only [cw, List.length_cons]; omega
theorem newL {w : World} {b2 b : Nat} {o : Nat → Int} {h : Hs} {S : ES} (hR : Rp noEx w b o h S) (hN : NI S 0) {B : Nat → Prop} {p : Option Addr} {n c : Nat} {css : List (List Int)} (hb2 : w.cell? ⟨b2, 1, none⟩ = some (.slice p n c)) (hC : RdC B w p n css) (hB : ∀ j, B j → o j = -9 ∧ j < w.heap.size)
    (hn : css.length ≤ 1048576) (hl : ∀ es ∈ css, es.length ≤ 1048576) (hw : ∀ es ∈ css, ∀ x ∈ es, Wi S.nv x) {R : Value → World → Prop}
    (hK : ∀ w', Nx2 w b o (css.foldl addC S) w' → R (.tuple #[Pt b, I 0]) w') : NewL b2 b w R := by
  unfold NewL
  have hcl := hC.len
  refine ldC_of (by rw [add_mk]; exact hb2) ?_
  refine lp_of (fun s W => ∃ (i : Nat) (S1 : ES) (o1 : Nat → Int) (h1 : Hs), s.1 = (i : Int) ∧ i ≤ css.length ∧ (css.take i).foldl addC S = S1 ∧ NI S1 i ∧ S1.nv = S.nv ∧ Rp noEx W b o1 h1 S1 ∧ Ag w o o1 ∧ Keep (fun i => tMine (o i)) w W) (fun s _ => (css.length - s.1).toNat)
    ⟨0, S, o, h, rfl, Nat.zero_le _, rfl, hN, rfl, hR, Ag.refl _ _, (Keep.refl None _).none⟩ ?_
  rintro ⟨i', ⟨⟩⟩ W ⟨i, S1, o1, h1, rfl, hi, hfo, hNI, hnv1, hRi, hai, kWi⟩
  dsimp only
  refine pif_of (fun hlt => ?_) fun hge => ?_
  · have hlt : i < css.length := by
      have : (i : Int) < (n : Int) := by simpa using hlt
      omega
    rw [wrap_nat i (by omega)]
    obtain ⟨es, hes⟩ := getE hlt
    have hem := List.mem_of_getElem? hes
    have hel := hl es hem
    have hew : ∀ x ∈ es, Wi S1.nv x := by rw [hnv1]; exact hw es hem
    have hnvb := hRi.nv
    have hef : ∀ x ∈ es, fl x = true := fun x hx => wi_fl hnvb (hew x hx)
    have hstep := hNI.step hew hel (by omega)
    have efo : (css.take (i + 1)).foldl addC S = addC S1 es := by rw [take_snocN hes, List.foldl_append, hfo]; rfl
    have hnv2 : (addC S1 es).nv = S.nv := (addC_ar S1 es).2.1.trans hnv1
    have zW := kWi.size
    have hBm : ∀ j, B j → ¬ tMine (o j) := fun j hj hh => hh (hB j hj).1
    have hB1 : ∀ j, B j → o1 j = -9 ∧ j < W.heap.size := fun j hj => ⟨by rw [hai j (hB j hj).2]; exact (hB j hj).1, by have := (hB j hj).2; omega⟩
    have hCW := hC.keep kWi hBm
    refine ⟨fun _ W' => ∃ (o2 : Nat → Int) (h2 : Hs), Rp noEx W' b o2 h2 (addC S1 es) ∧ Ag w o o2 ∧ Keep (fun i => tMine (o i)) w W', ?_, ?_⟩
    rotate_left
    · rintro ⟨⟩ W' ⟨o2, h2, r2, a2, k2⟩
      exact ⟨⟨i + 1, addC S1 es, o2, h2, rfl, hlt, efo, hstep, hnv2, r2, a2, k2⟩, by omega⟩
    refine hCW.ix hes fun a q m cc ha hRd hqB hqn => ldC_of ha (ldP_of (x := some ⟨h1.st, 0, none⟩) (by rw [add_mk]; exact hRi.self.cell 1) ?_)
    have hml := hRd.len
    have hNw : News W 1 q m cc (es.map I) := by
      cases q with
      | none =>
        obtain ⟨e1, e2⟩ := rdl_none hRd
        subst e1; subst e2
        exact Or.inl ⟨rfl, rfl, hqn rfl, rfl⟩
      | some a => exact rdl_news hRd
    have hwd := hNI.w
    have hac := hNI.a
    refine cl_of ok25 (putA hRi hRd hNw (by omega) (fun j hj h0 hh => by rw [(hB1 j (hqB j hj h0)).1] at hh; exact absurd hh (by decide)) hef (by
      have : i * 1048577 ≤ 1048576 * 1048577 := Nat.mul_le_mul_right _ (by omega)
      omega) (by omega) false) fun e w10 ⟨he, hN10⟩ => ⟨_, _, he, ?_⟩
    obtain ⟨o10, h10, r10, a10, k10, e10, n10⟩ := hN10.nine (by decide)
    have a010 : Ag w o o10 := hai.trans a10 zW
    have kk10 := keep_nine (T := tAr) (by decide) kWi hai k10
    have z10 := k10.size
    have hRd10 : RdL w10 q m es := rdl_keep hRd k10 fun j hj h0 hh => by
      have hh' : o1 j = -2 := hh
      rw [(hB1 j (hqB j hj h0)).1] at hh'; exact absurd hh' (by decide)
    refine cl_of ok26 (taut42 hRd10 (by omega) hef) fun e w11 ⟨r, he, hr, k11⟩ => ⟨r, he, ?_⟩
    have r11 := r10.keep0 k11
    have kk11 := kk10.then0 k11
    have etb : tautB es = r := by
      rw [Bool.eq_iff_iff, tautB_iff]; exact hr.symm
    cases r with
    | true =>
      refine pif_t rfl ⟨o10, h10, ?_, a010, kk11⟩
      have : addC S1 es = putAr S1 es := by unfold addC; rw [if_pos etb]
      rw [this]; exact r11
    | false =>
      have etn : ¬ tautB es = true := by rw [etb]; decide
      refine pif_f rfl (cl_of ok27 (Lits.tidyP (rdl_keep hRd10 k11 fun _ _ _ h => h) (by omega)) fun e w12 ⟨v, L, he, hT, tp, tc, hv, hO12, htn, k12⟩ => ?_)
      subst hv
      have eL : L = tidyL es := hT.uniq (tidyL_td hef) fun x _ => Iff.rfl
      subst eL
      refine ⟨tp, _, tc, he, ?_⟩
      have k1012 := k11.then0 k12
      have z12 := k1012.size
      have z11 := k11.size
      refine alc_at fun b48 w13 hb48 hB13 k13 => ?_
      have z13 := k13.size
      have k1013 := k1012.then0 k13
      have r13 := r10.keep0 k1013
      have htl := hO12.lt
      have hlls : ∀ (i : Nat) (ids : List Nat), S1.lists[i]? = some ids → ∀ k ∈ ids, k < S1.H.length := fun i ids hi k hk => hNI.wf.lt1 hi hk
      have hOt := hO12.keep0 k13
      obtain ⟨o13, h13, r13', t13, hbk, hbo, est, ebk⟩ := r13.addHeld (bb := b48) (x := (tp, (tidyL es).length, tc)) (d := tidHd S1 es) hB13 (r10.nrm b48 (by omega)) (own_rdl hOt) (fun j hj => ⟨r10.nrm j (by have := htn j hj; omega), by have := htl j hj; omega, by have := htl j hj; omega⟩) hlls hNI.wf.sh hNI.wf.le
      have hbk : h13.hb S1.H.length = b48 := hbk
      have a13 : Ag w10 o10 o13 := fun j hj => by
        rcases t13 j with h1 | h1 | h1
        · exact h1
        · omega
        · have := htn j h1; omega
      have a013 : Ag w o o13 := a010.trans a13 (by omega)
      have kk13 := kk10.then0 k1013
      have c1 : ∀ {V : World} {K : Option Addr → Nat → Nat → Prop}, Keep None w13 V → K tp (tidyL es).length tc → ldC V ((⟨b48, 0, none⟩ : Addr).add 1) K := fun {V K} hk hK => by
        rw [add_mk]; exact ldC_of ((hB13.keep0 hk).cell 1) hK
      refine c1 (Keep.refl _ _) ?_
      have hdK : ((putAr S1 es).H ++ [tidHd S1 es])[S1.H.length]? = some (tidHd S1 es) := by
        show (S1.H ++ [_])[S1.H.length]? = _
        rw [List.getElem?_append_right (Nat.le_refl _), Nat.sub_self]; rfl
      refine pif_of (fun hq => ?_) fun hq => ?_
      · have hq : (tidyL es).length < 2 := by
          have : ((tidyL es).length : Int) < 2 := by simpa using hq
          omega
        have hP := pushSh r13' (k := S1.H.length) (by have := hNI.s; show S1.short.length ≤ _; omega) (K := fun W' => ∃ (o2 : Nat → Int) (h2 : Hs), Rp noEx W' b o2 h2 (addC S1 es) ∧ Ag w o o2 ∧ Keep (fun i => tMine (o i)) w W') fun w16 ⟨o16, h16, r16, a16, k16, e16⟩ => ⟨o16, h16, ?_, a013.trans a16 (by omega), keep_nine (T := tSh) (by intro hh; rcases hh with hh | hh <;> omega) kk13 a013 k16⟩
        · rw [hbk] at hP
          exact hP
        · have : addC S1 es = { putAr S1 es with H := S1.H ++ [tidHd S1 es], short := S1.short ++ [S1.H.length] } := by unfold addC; rw [if_neg etn, if_pos hq]
          rw [this]; exact r16
      · have hq : ¬ (tidyL es).length < 2 := by
          have : ¬ ((tidyL es).length : Int) < 2 := by simpa using hq
          omega
        have kd : Keep None w13 w13.drew := (Keep.refl _ _).drew
        have hRt := own_rdl (hOt.keep0 kd)
        refine c1 kd (hRt.ix (i := 0) (by show 0 < (tidyL es).length; omega) fun a x hx ha => ldI_of ha (c1 kd ?_))
        refine hRt.ix (i := 1) (by show 1 < (tidyL es).length; omega) fun a' y hy ha' => ldI_of ha' ?_
        have hx1 : (tidyL es).headD 0 = x := by
          cases ht : tidyL es with
          | nil => rw [ht] at hx; simp at hx
          | cons z zs => rw [ht] at hx; simpa using hx
        have hy1 : (tidyL es).tail.headD 0 = y := by
          cases ht : tidyL es with
          | nil => rw [ht] at hy; simp at hy
          | cons z zs => cases zs with
            | nil => rw [ht] at hy; simp at hy
            | cons z' zs' => rw [ht] at hy; simpa using hy
        have hxw : Wi S1.nv x := hew x ((hT.mem x).1 (List.mem_of_getElem? hx)).1
        have hyw : Wi S1.nv y := hew y ((hT.mem y).1 (List.mem_of_getElem? hy)).1
        have rd := r13'.keep0 kd
        have h28 := watch28 rd (k := S1.H.length) (d := tidHd S1 es) hdK (a := x) (c := y) hxw hyw (fun i ids hi => by have := hNI.wf.len (i := i) (ids := ids) hi; have := hNI.h; omega) (fun hh => hh) (fun hh => hh)
        rw [hbk] at h28
        refine cl_of ok28 h28 fun e w17 ⟨he, o17, h17, r17, a17, k17, e17⟩ => ⟨he, o17, h17, ?_, ?_, keep_nine (T := tWat) (by intro hh; rcases hh with hh | hh | hh <;> omega) (kk13.then0 kd) a013 k17⟩
        · have : addC S1 es = watchS { putAr S1 es with H := S1.H ++ [tidHd S1 es] } S1.H.length (tidHd S1 es) x y := by unfold addC; rw [if_neg etn, if_neg hq, hx1, hy1]
          rw [this]; exact r17
        · exact a013.trans a17 (by have := kd.size; omega)
  · have hge : i = css.length := by
      have : ¬ (i : Int) < (n : Int) := by simpa using hge
      omega
    subst hge
    rw [List.take_length] at hfo
    refine hK W ⟨o1, h1, ?_, hai, kWi⟩
    rw [hfo]; exact hRi
end Go.Proofs.Ytmhjehodfggleaa.Eng

/- An Engine in memory: New whole. -/
set_option linter.unusedVariables false
set_option linter.unusedSimpArgs false
set_option linter.unusedSectionVars false
set_option maxRecDepth 100000
namespace Go.Proofs.Ytmhjehodfggleaa.Eng
open Go Go.Proofs.Ytmhjehodfggleaa.Vc Go.Proofs.Ytmhjehodfggleaa.T
open Go.Proofs.Ytmhjehodfggleaa.Apart (RdL own_rdl wrap_nat getE own_len take_snoc Sl sv New LL)
open Go.Proofs.Ytmhjehodfggleaa.Lits (fl fl_iff Ans ans_of formedP idx idx_range idx_inj indexP Td Srt)
open Go.Proofs.Ytmhjehodfggleaa.Arn (Ar AR words off cw Got)
open Go.Proofs.Ytmhjehodfggleaa.Trail (TI Tr St valA levA reaA ownB Moved TLaid above upto freeA implA Open ent TRep VR New9)

/-- the parts of an Engine that begins -/
structure Parts (base : Nat) (W : World) (nv : Nat) (s : Nat) (M : Nat → Prop) (T : TI) (lb bk : Nat) : Prop where
  ar : AR M W s ⟨[], []⟩
  mB : ∀ i, M i → base ≤ i
  tr : TRep W T [] [] (List.replicate nv 0) (List.replicate nv (0, 0))
  tB : ∀ i, T.F i → base ≤ i
  tL : ∀ i, T.F i → i < W.heap.size
  l : Blk W lb (List.replicate (2 * nv) (.slice none 0 0)) 59
  kB : Blk W bk [.slice none 0 0] 58
  lB : base ≤ lb
  bB : base ≤ bk
  d1 : ∀ i, M i → ¬ T.F i ∧ i ≠ lb ∧ i ≠ bk
  d2 : ∀ i, T.F i → i ≠ lb ∧ i ≠ bk
  d3 : lb ≠ bk
def engCells (nv s : Nat) (T : TI) (lb bk : Nat) : List Value := [I nv, Pt s, Pt T.t, .slice none 0 0, .slice (some ⟨lb, 0, none⟩) (2 * nv) (2 * nv), .slice none 0 0, .slice none 0 0, .iface 55 (Pt bk), I 0, .bool false, .bool false, .bool false, I 0]
def E0 (nv : Nat) : ES := ⟨nv, ⟨[], []⟩, [], [], List.replicate (2 * nv) [], [], [], [], [], 0, false, false, false, 0⟩
theorem ob_none {i : Nat} : ¬ ob none i := fun ⟨a, h, _⟩ => by cases h
theorem vr_nil (nv : Nat) : VR nv [] (List.replicate nv 0) (List.replicate nv (0, 0)) :=
  ⟨by simp, by simp, fun v h1 h2 => by
    rw [Trail.sg_ent]
    show (List.replicate nv (0 : Int)).getD (v - 1) 0 = 0
    rw [List.getD_eq_getElem?_getD, List.getElem?_replicate]
    split <;> rfl, fun e he => by cases he⟩
theorem Parts.rp {base : Nat} {W : World} {nv s : Nat} {M : Nat → Prop} {T : TI} {lb bk b : Nat} (P : Parts base W nv s M T lb bk) (hnv : nv ≤ 1048576) (hB : Blk W b (engCells nv s T lb bk) 64) (hb : base ≤ b) (hn : ¬ M b ∧ ¬ T.F b ∧ b ≠ lb ∧ b ≠ bk) :
    ∃ o h, Rp noEx W b o h (E0 nv) ∧ ∀ j, j < base → o j = -9 := by
  let o : Nat → Int := fun j => open Classical in if j = b then -1 else if M j then -2 else if T.F j then -3 else if j = lb then -5 else if j = bk then -8 else -9
  have oM : ∀ {i}, M i → o i = -2 := fun {i} hi => by
    show (open Classical in if i = b then (-1 : Int) else if M i then -2 else _) = -2
    rw [if_neg (fun e : i = b => hn.1 (e ▸ hi)), if_pos hi]
  have oT : ∀ {i}, T.F i → o i = -3 := fun {i} hi => by
    show (open Classical in if i = b then (-1 : Int) else if M i then -2 else if T.F i then -3 else _) = -3
    rw [if_neg (fun e : i = b => hn.2.1 (e ▸ hi)), if_neg fun hm => (P.d1 i hm).1 hi, if_pos hi]
  have oL : o lb = -5 := by
    show (open Classical in if lb = b then (-1 : Int) else if M lb then -2 else if T.F lb then -3 else if lb = lb then -5 else _) = -5
    rw [if_neg (Ne.symm hn.2.2.1), if_neg fun hm => (P.d1 _ hm).2.1 rfl, if_neg fun hm => (P.d2 _ hm).1 rfl, if_pos rfl]
  have oB : o bk = -8 := by
    show (open Classical in if bk = b then (-1 : Int) else if M bk then -2 else if T.F bk then -3 else if bk = lb then -5 else if bk = bk then -8 else _) = -8
    rw [if_neg (Ne.symm hn.2.2.2), if_neg fun hm => (P.d1 _ hm).2.2 rfl, if_neg fun hm => (P.d2 _ hm).2 rfl, if_neg (Ne.symm P.d3), if_pos rfl]
  have hbl := hB.lt
  have hll := P.l.lt
  have hbkl := P.kB.lt
  have oN : ∀ j, (j < base ∨ W.heap.size ≤ j) → o j = -9 := fun j hj => by
    show (open Classical in if j = b then (-1 : Int) else if M j then -2 else if T.F j then -3 else if j = lb then -5 else if j = bk then -8 else -9) = -9
    have := P.lB
    have := P.bB
    rw [if_neg (by omega), if_neg fun hm => by have := P.mB j hm; have := P.ar.lt j hm; omega, if_neg fun hm => by have := P.tB j hm; have := P.tL j hm; omega, if_neg (by omega), if_neg (by omega)]
  refine ⟨o, ⟨s, T, (none, 0, 0), (some ⟨lb, 0, none⟩, 2 * nv, 2 * nv), List.replicate (2 * nv) (none, 0, 0), (none, 0, 0), (none, 0, 0), bk, (none, 0, 0), [], fun _ => 0, fun _ => (none, 0, 0)⟩,
    ⟨hB, if_pos rfl, ar_grow P.ar (fun i hi => ⟨oM hi, P.ar.lt i hi⟩) fun i hi => hi.2, ⟨_, _, P.tr, .nil, vr_nil nv⟩, fun i hi => oT hi, Own.nil _ _ _, fun i hi => absurd hi ob_none, ?_, fun i hi => ?_, List.length_replicate, List.length_replicate,
      fun i x ids hx hi _ => ?_, fun i x hx j hj => ?_, Own.nil _ _ _, fun i hi => absurd hi ob_none, Own.nil _ _ _, fun i hi => absurd hi ob_none, P.kB, oB, Own.nil _ _ _, fun i hi => absurd hi ob_none, rfl, fun i x y hx => by simp [E0] at hx, fun i d hd => by simp [E0] at hd, fun i j hi => by simp [E0] at hi, fun j hj => oN j (Or.inr hj)⟩, fun j hj => oN j (Or.inl hj)⟩
  · refine Or.inr ⟨lb, _, rfl, P.l, Nat.le_refl _, by simp only [maxLen]; omega, by simp, ?_⟩
    rw [List.map_replicate, Nat.mul_one, List.take_of_length_le (by simp)]
    rfl
  · obtain ⟨a, ha, rfl⟩ := hi
    cases ha
    exact oL
  · have hx' : (List.replicate (2 * nv) ((none, 0, 0) : Sl))[i]? = some x := hx
    have hi' : (List.replicate (2 * nv) ([] : List Nat))[i]? = some ids := hi
    rw [List.getElem?_replicate] at hx' hi'
    split at hx'
    · rw [if_pos (by assumption)] at hi'
      injection hx' with hx'; injection hi' with hi'
      subst hx'; subst hi'
      exact Own.nil _ _ _
    · cases hx'
  · have hx' : (List.replicate (2 * nv) ((none, 0, 0) : Sl))[i]? = some x := hx
    rw [List.getElem?_replicate] at hx'
    split at hx'
    · injection hx' with hx'
      subst hx'
      exact absurd hj ob_none
    · cases hx'
theorem ni0 {nv : Nat} (hnv : nv ≤ 1048576) : NI (E0 nv) 0 := by
  have hl : ∀ {i : Nat} {ids : List Nat}, (E0 nv).lists[i]? = some ids → ids = [] := fun {i ids} hi => by
    have hi' : (List.replicate (2 * nv) ([] : List Nat))[i]? = some ids := hi
    rw [List.getElem?_replicate] at hi'
    split at hi'
    · injection hi' with hi'; exact hi'.symm
    · cases hi'
  exact ⟨⟨⟨hnv, fun k d hk => by simp [E0] at hk, Nat.zero_le _, List.length_replicate, fun i ids hi => by rw [hl hi]; exact List.nodup_nil, fun i k ids hi hk => by rw [hl hi] at hk; cases hk⟩, (fun k hk => by cases hk), (fun k hk => by cases hk), Nat.zero_le _, Nat.zero_le _⟩, Nat.le_refl _, Nat.le_refl _, Nat.le_refl _, Nat.le_refl _⟩
/-- the end of New, behind its parts -/
theorem newEnd {base : Nat} {w W : World} {nv s : Nat} {M : Nat → Prop} {T : TI} {lb bk b2 : Nat} (P : Parts base W nv s M T lb bk) (hnv : nv ≤ 1048576) (hk : Keep None w W) (hbase : w.heap.size ≤ base) {B : Nat → Prop} {p : Option Addr} {n c : Nat} {css : List (List Int)} (hb2 : W.cell? ⟨b2, 1, none⟩ = some (.slice p n c)) (hC : RdC B w p n css) (hB : ∀ j, B j → j < w.heap.size)
    (hn : css.length ≤ 1048576) (hl : ∀ es ∈ css, es.length ≤ 1048576) (hw : ∀ es ∈ css, ∀ x ∈ es, Wi nv x) {R : Value → World → Prop}
    (hK : ∀ w' b o h, Rp noEx w' b o h (newE nv css) → Keep None w w' → (∀ j, j < w.heap.size → o j = -9) → R (.tuple #[Pt b, I 0]) w') : alc W (engCells nv s T lb bk) 64 fun b25 w7 => NewL b2 b25 w7 R := by
  refine alc_at fun b w7 hb hB7 k7 => ?_
  have z := hk.size
  have z7 := k7.size
  have hlb := P.l.lt
  have hbk := P.kB.lt
  have hbs : base ≤ b := by have := P.lB; omega
  have P7 : Parts base w7 nv s M T lb bk := ⟨P.ar.keep0 k7, P.mB, P.tr.keep k7 (fun _ _ h => h), P.tB, fun i hi => by have := P.tL i hi; omega, P.l.keep0 k7, P.kB.keep0 k7, P.lB, P.bB, P.d1, P.d2, P.d3⟩
  obtain ⟨o, h, hR, ho⟩ := P7.rp hnv hB7 hbs ⟨fun hm => by have := P.ar.lt b hm; omega, fun hm => by have := P.tL b hm; omega, by omega, by omega⟩
  have kw7 := hk.then0 k7
  refine newL hR (ni0 hnv) (k7.cell hb2 fun h => h) (hC.keep kw7 fun _ _ h => h) (fun j hj => ⟨ho j (by have := hB j hj; omega), by have := hB j hj; have := kw7.size; omega⟩) hn hl hw fun w' ⟨o', h', r', a', k'⟩ => ?_
  refine hK w' b o' h' r' ?_ fun j hj => ?_
  · exact kw7.trans k' fun j hj hh => (hh (ho j (by omega))).elim
  · rw [a' j (by have := kw7.size; omega)]; exact ho j (by omega)
end Go.Proofs.Ytmhjehodfggleaa.Eng

/- An Engine in memory: New whole. -/
set_option linter.unusedVariables false
set_option linter.unusedSimpArgs false
set_option linter.unusedSectionVars false
set_option maxRecDepth 100000
namespace Go.Proofs.Ytmhjehodfggleaa.Eng
open Go Go.Proofs.Ytmhjehodfggleaa.Vc Go.Proofs.Ytmhjehodfggleaa.T
open Go.Proofs.Ytmhjehodfggleaa.Apart (RdL own_rdl wrap_nat getE own_len take_snoc Sl sv New LL)
open Go.Proofs.Ytmhjehodfggleaa.Lits (fl fl_iff Ans ans_of formedP idx idx_range idx_inj indexP Td Srt)
open Go.Proofs.Ytmhjehodfggleaa.Arn (Ar AR words off cw Got)
open Go.Proofs.Ytmhjehodfggleaa.Trail (TI Tr St valA levA reaA ownB Moved TLaid above upto freeA implA Open ent TRep VR New9)

/-- what New answers -/
def NewA (w : World) (nv : Int) (css : List (List Int)) (v : Value) (w' : World) : Prop :=
  (¬ FormedF nv css ∧ v = .tuple #[.pointer none, I 1] ∧ Keep None w w') ∨
  (FormedF nv css ∧ ∃ b o h, v = .tuple #[Pt b, I 0] ∧ Rp noEx w' b o h (newE nv.toNat css) ∧ Keep None w w' ∧ ∀ j, j < w.heap.size → o j = -9)
theorem new5 {B : Nat → Prop} {w : World} {nv : Int} {p : Option Addr} {n c : Nat} {css : List (List Int)} (hC : RdC B w p n css) (hB : ∀ j, B j → j < w.heap.size) (hn : css.length ≤ 1048576) (hl : ∀ es ∈ css, es.length ≤ 1048576) :
    Calls Try.prog 5 #[.agg #[I nv, .slice p n c]] w fun e w' => ∃ v, e = .returned v ∧ NewA w nv css v w' := by
  refine V5_calls nv p n c w (NewA w nv css) ?_
  unfold V5
  have hcl := hC.len
  refine alc_at fun b2 w1 hb2 hB2 k1 => ?_
  have z1 := k1.size
  have c0 : ∀ {V : World} {K : Int → Prop}, Keep None w1 V → K nv → ldI .i64 V ((⟨b2, 0, none⟩ : Addr).add 0) K := fun {V K} hk hK => by
    rw [add_mk]; exact ldI_of ((hB2.keep0 hk).cell 0) hK
  have c1 : ldC w1 ((⟨b2, 0, none⟩ : Addr).add 1) = ldC w1 ((⟨b2, 0, none⟩ : Addr).add 1) := rfl
  refine c0 (Keep.refl _ _) (ldC_of (x := p) (n := n) (c := c) (by rw [add_mk]; exact hB2.cell 1) ?_)
  refine cl_of ok22 (formed23 (hC.keep0 k1) (by omega) fun es hes => by have := hl es hes; omega) fun e w2 ⟨r, he, hr, k2⟩ => ⟨r, he, ?_⟩
  have k12 := k1.then0 k2
  refine pif_of (fun hq => ?_) fun hq => ?_
  · have hq : r = false := by simpa using hq
    exact Or.inl ⟨(fun hf => by rw [hr.2 hf] at hq; cases hq), rfl, k12⟩
  have hq : r = true := by simpa using hq
  have hF := hr.1 hq
  obtain ⟨hf0, hf1, hfw⟩ := hF
  obtain ⟨m, rfl⟩ := Int.eq_ofNat_of_zero_le hf0
  refine c0 k2 ?_
  refine cl_of ok23 (Trail.new9 (m : Int) w2) fun e w3 ⟨v, he, k3, hv⟩ => ?_
  rcases hv with ⟨hbad, _⟩ | ⟨_, T, hTF, rfl, hT⟩
  · exact absurd ⟨hf0, hf1⟩ hbad
  rw [Int.toNat_natCast] at hT
  have hTr : Tr m w3 T [] [] := ⟨_, _, hT, .nil, vr_nil m⟩
  refine ⟨_, _, he, ?_⟩
  have kd3 : Keep None w3 w3.drew := (Keep.refl _ _).drew
  have k3d := k3.then0 kd3
  have z2 := k2.size
  have z3 := k3.size
  have z3d : w3.drew.heap.size = w3.heap.size := rfl
  have k23 := k2.then0 k3d
  have k03 := k1.then0 k23
  refine c0 k23 (c0 k23 ?_)
  have ew : IntKind.wrap .i64 (2 * (m : Int)) = 2 * (m : Int) := by rw [IntKind.wrap_i64]; omega
  rw [ew]
  have etn : (2 * (m : Int)).toNat = 2 * m := by omega
  -- the lists' list made
  have mkL : ∀ (W : World) {K : Option Addr → Nat → Nat → World → Prop}, (∀ lb W', lb = W.heap.size → Blk W' lb (List.replicate (2 * m) (.slice none 0 0)) 59 → Keep None W W' → K (some ⟨lb, 0, none⟩) (2 * m) (2 * m) W') →
      ∃ (p : Option Addr) (l' c : Nat), ∃ w' : World, (Instr.makeSlice 54 (.int .i64 (2 * (m : Int))) (.int .i64 (2 * (m : Int)))).run Try.prog W = .ok (.slice p l' c) w' ∧ K p l' c w' := fun W {K} hK => by
    refine Lits.mk2_of (B := 24) (z := .slice none 0 0) Try.underlying54 (by kernel_rfl) rfl (by omega) (by omega) (by omega) (by omega) fun lb W' hlb hBl kl => ?_
    rw [etn] at hBl ⊢
    exact hK lb W' hlb hBl kl
  -- the end
  have fin : ∀ {W : World} {s : Nat} {M : Nat → Prop} {lb bk m0 m1 : Nat}, AR M W s ⟨[], []⟩ → (∀ i, M i → m0 ≤ i ∧ i < m1) → w3.heap.size ≤ m0 → Blk W lb (List.replicate (2 * m) (.slice none 0 0)) 59 → Blk W bk [.slice none 0 0] 58 → (lb < m0 ∨ m1 ≤ lb) → (bk < m0 ∨ m1 ≤ bk) → lb ≠ bk → w3.heap.size ≤ lb → w3.heap.size ≤ bk → Keep None w3 W →
      alc W (engCells m s T lb bk) 64 fun b25 w7 => NewL b2 b25 w7 (NewA w (m : Int) css) := by
    intro W s M lb bk m0 m1 hA hM hm0 hBl hBk h1 h2 h3 h4 h5 kW
    have zW := kW.size
    have hlt : ∀ i, T.F i → w2.heap.size ≤ i ∧ i < w3.heap.size := fun i hi => ⟨hTF i hi, hTr.lt i hi⟩
    have kall : Keep None w W := ((k1.then0 k2).then0 k3).then0 kW
    have kb : Keep None w1 W := (k2.then0 k3).then0 kW
    refine newEnd (base := w.heap.size) (w := w) (M := M) (T := T) ⟨hA, fun i hi => by have := (hM i hi).1; omega, hT.keep kW (fun _ _ h => h), fun i hi => by have := (hlt i hi).1; omega, fun i hi => by have := (hlt i hi).2; omega, hBl, hBk, by omega, by omega, fun i hi => ⟨fun ht => ?_, ?_, ?_⟩, fun i hi => ⟨?_, ?_⟩, h3⟩ (by omega) kall (Nat.le_refl _) (p := p) (n := n) (c := c) ((hB2.keep0 kb).cell 1) hC hB hn hl hfw fun w' b o h hR hk ho => ?_
    · have := (hM i hi).1; have := (hlt i ht).2; omega
    · have := hM i hi; omega
    · have := hM i hi; omega
    · have := (hlt i hi).2; omega
    · have := (hlt i hi).2; omega
    · exact Or.inr ⟨⟨hf0, hf1, hfw⟩, b, o, h, rfl, hR, hk, ho⟩
  refine ⟨?_, ?_, ?_⟩
  · refine cl_of ok24 (Arn.new24 _) fun e w4 ⟨s, M, he, hA, hM, k4⟩ => ⟨_, he, ?_⟩
    have hML := hA.lt
    have z4 := k4.size
    have k24 := k23.then0 k4
    refine ⟨c0 k24 rfl, c0 k24 rfl, ?_, ?_⟩
    · refine mkL _ fun lb w5 hlb hBl k5 => ?_
      have z5 := k5.size
      have k25 := k24.then0 k5
      have hll := hBl.lt
      refine ⟨c0 k25 rfl, alc_at fun bk w6 hbk hBk k6 => ?_⟩
      have k26 := k25.then0 k6
      refine ⟨c0 k26 rfl, c0 k26 rfl, ?_⟩
      exact fin ((hA.keep0 k5).keep0 k6) (fun i hi => ⟨hM i hi, hML i hi⟩) (by omega) (hBl.keep0 k6) hBk (by omega) (by omega) (by omega) (by omega) (by omega) (((kd3.then0 k4).then0 k5).then0 k6)
    · refine alc_at fun bk w5 hbk hBk k5 => ?_
      have z5 := k5.size
      have k25 := k24.then0 k5
      have hll := hBk.lt
      refine ⟨c0 k25 rfl, c0 k25 rfl, mkL _ fun lb w6 hlb hBl k6 => ?_⟩
      have k26 := k25.then0 k6
      refine ⟨c0 k26 rfl, ?_⟩
      exact fin ((hA.keep0 k5).keep0 k6) (fun i hi => ⟨hM i hi, hML i hi⟩) (by omega) hBl (hBk.keep0 k6) (by omega) (by omega) (by omega) (by omega) (by omega) (((kd3.then0 k4).then0 k5).then0 k6)
  · refine mkL _ fun lb w4 hlb hBl k4 => ?_
    have z4 := k4.size
    have k24 := k23.then0 k4
    have hll := hBl.lt
    refine ⟨c0 k24 rfl, ?_, ?_⟩
    · refine cl_of ok24 (Arn.new24 _) fun e w5 ⟨s, M, he, hA, hM, k5⟩ => ⟨_, he, ?_⟩
      have hML := hA.lt
      have z5 := k5.size
      have k25 := k24.then0 k5
      refine ⟨c0 k25 rfl, c0 k25 rfl, alc_at fun bk w6 hbk hBk k6 => ?_⟩
      have k26 := k25.then0 k6
      refine ⟨c0 k26 rfl, c0 k26 rfl, ?_⟩
      exact fin (hA.keep0 k6) (fun i hi => ⟨hM i hi, hML i hi⟩) (by omega) ((hBl.keep0 k5).keep0 k6) hBk (by omega) (by omega) (by omega) (by omega) (by omega) (((kd3.then0 k4).then0 k5).then0 k6)
    · refine alc_at fun bk w5 hbk hBk k5 => ?_
      have z5 := k5.size
      have k25 := k24.then0 k5
      have hbl := hBk.lt
      refine ⟨c0 k25 rfl, c0 k25 rfl, ?_⟩
      refine cl_of ok24 (Arn.new24 _) fun e w6 ⟨s, M, he, hA, hM, k6⟩ => ⟨_, he, ?_⟩
      have hML := hA.lt
      have z6 := k6.size
      have k26 := k25.then0 k6
      refine ⟨c0 k26 rfl, c0 k26 rfl, ?_⟩
      exact fin hA (fun i hi => ⟨hM i hi, hML i hi⟩) (by omega) ((hBl.keep0 k5).keep0 k6) (hBk.keep0 k6) (by omega) (by omega) (by omega) (by omega) (by omega) (((kd3.then0 k4).then0 k5).then0 k6)
  · refine alc_at fun bk w4 hbk hBk k4 => ?_
    have z4 := k4.size
    have k24 := k23.then0 k4
    have hbl := hBk.lt
    refine ⟨c0 k24 rfl, c0 k24 rfl, ?_, ?_⟩
    · refine cl_of ok24 (Arn.new24 _) fun e w5 ⟨s, M, he, hA, hM, k5⟩ => ⟨_, he, ?_⟩
      have hML := hA.lt
      have z5 := k5.size
      have k25 := k24.then0 k5
      refine ⟨c0 k25 rfl, c0 k25 rfl, mkL _ fun lb w6 hlb hBl k6 => ?_⟩
      have k26 := k25.then0 k6
      refine ⟨c0 k26 rfl, ?_⟩
      exact fin (hA.keep0 k6) (fun i hi => ⟨hM i hi, hML i hi⟩) (by omega) hBl ((hBk.keep0 k5).keep0 k6) (by omega) (by omega) (by omega) (by omega) (by omega) (((kd3.then0 k4).then0 k5).then0 k6)
    · refine mkL _ fun lb w5 hlb hBl k5 => ?_
      have z5 := k5.size
      have k25 := k24.then0 k5
      have hll := hBl.lt
      refine ⟨c0 k25 rfl, ?_⟩
      refine cl_of ok24 (Arn.new24 _) fun e w6 ⟨s, M, he, hA, hM, k6⟩ => ⟨_, he, ?_⟩
      have hML := hA.lt
      have z6 := k6.size
      have k26 := k25.then0 k6
      refine ⟨c0 k26 rfl, c0 k26 rfl, ?_⟩
      exact fin hA (fun i hi => ⟨hM i hi, hML i hi⟩) (by omega) (hBl.keep0 k6) ((hBk.keep0 k5).keep0 k6) (by omega) (by omega) (by omega) (by omega) (by omega) (((kd3.then0 k4).then0 k5).then0 k6)
end Go.Proofs.Ytmhjehodfggleaa.Eng

/- An Engine in plain: what holds of it stays through every step. -/
set_option linter.unusedVariables false
set_option linter.unusedSimpArgs false
set_option linter.unusedSectionVars false
set_option maxRecDepth 100000
namespace Go.Proofs.Ytmhjehodfggleaa.Eng
open Go Go.Proofs.Ytmhjehodfggleaa.Vc Go.Proofs.Ytmhjehodfggleaa.T
open Go.Proofs.Ytmhjehodfggleaa.Apart (RdL own_rdl wrap_nat getE own_len take_snoc Sl sv New LL)
open Go.Proofs.Ytmhjehodfggleaa.Lits (fl fl_iff Ans ans_of formedP idx idx_range idx_inj indexP Td Srt)
open Go.Proofs.Ytmhjehodfggleaa.Trail (TI Tr St valA levA reaA ownB Moved TLaid above upto freeA implA Open ent)

def StE (S : ES) : Prop := St S.nv S.R S.L
/-- what holds of an Engine -/
structure WF (S : ES) : Prop extends WfS S where
  st : StE S
theorem st_put {S : ES} (h : StE S) {l r : Int} (hl : Wi S.nv l) (h0 : vl S l = 0) (hr : 0 ≤ r) : StE (putS S l r) := by
  have hf := vl_free hl h0
  obtain ⟨ho, hop⟩ := Trail.freeA_open hf
  exact St.imply h ho hop hr
theorem st_single {S : ES} (h : StE S) {d : Hd} (hd : ∀ x ∈ d.ls, Wi S.nv x) (hat : 0 ≤ d.at_) : StE (single S d).1 := by
  unfold single
  split
  · rename_i l hf
    have h1 := List.mem_of_find?_eq_some hf
    have h2 := List.find?_some hf
    simp only [decide_eq_true_eq] at h2
    split
    · exact h
    · rename_i hn
      exact st_put h (hd l h1) (by rcases vl_cases S l with e | e | e <;> omega) hat
  · exact h
theorem st_vstep {l : Int} {S : ES} {k : Nat} {todo stay : List Nat} {ok : Bool} (h : VI l S (k :: todo) stay) (hs : StE S) : StE (vstep l (S, stay, ok) k).1 := by
  obtain ⟨d, hd, h0, h1, hne, hw⟩ := h.td k (by simp)
  obtain ⟨hdw, _, _, hat⟩ := h.wf.hl k d hd
  have how : Wi S.nv (other d l) := by
    obtain ⟨o1, _⟩ := other_of hw hne
    rcases o1 with o1 | o1 <;> rw [o1]
    · exact hdw _ h0
    · exact hdw _ h1
  unfold vstep
  dsimp only
  rw [hd]
  dsimp only
  split
  · exact hs
  · split
    · exact hs
    · split
      · exact hs
      · split
        · exact hs
        · split
          · rename_i he; exact st_put hs how he hat
          · exact hs
theorem st_fold {l : Int} : ∀ (todo : List Nat) (S : ES) (stay : List Nat) (ok : Bool), VI l S todo stay → StE S → StE (todo.foldl (vstep l) (S, stay, ok)).1
  | [], S, stay, ok, h, hs => hs
  | k :: todo, S, stay, ok, h, hs => st_fold todo _ _ (vstep l (S, stay, ok) k).2.2 h.step (st_vstep h hs)
theorem st_visit {S : ES} (h : WfE S) (hs : StE S) {l : Int} (hl : Wi S.nv l) : StE (visit S l).1 := st_fold (listAt S (idxN l)) { S with lists := S.lists.set (idxN l) [] } [] true (VI.start h hl) hs
theorem sfold_inv : ∀ (ids : List Nat) (acc : ES × Bool), WfE acc.1 → StE acc.1 → WfE (ids.foldl sstep acc).1 ∧ StE (ids.foldl sstep acc).1
  | [], acc, hw, hs => ⟨hw, hs⟩
  | k :: ids, acc, hw, hs => by
    refine sfold_inv ids _ (hw.sstep k) ?_
    unfold sstep
    split
    · exact hs
    · split
      · exact hs
      · rename_i d hd
        obtain ⟨a, _, _, b⟩ := hw.hl k d hd
        exact st_single hs a b
theorem spreadN_inv : ∀ (n : Nat) (S : ES), WfE S → StE S → WfE (spreadN n S).1 ∧ StE (spreadN n S).1 ∧ Fr { S with head := (spreadN n S).1.head } (spreadN n S).1
  | 0, S, hw, hs => ⟨hw, hs, Fr.refl _⟩
  | n + 1, S, hw, hs => by
    unfold spreadN
    cases he : S.R[S.head]? with
    | none => exact ⟨hw, hs, Fr.refl _⟩
    | some e =>
      dsimp only
      have hwi : Wi S.nv e.lit := own_wi (hs.own e (List.mem_of_getElem? he))
      have hw' := hw.self (S.head + 1) S.rest S.clash S.dead S.bad
      have v1 := hw'.visit (l := -e.lit) (wi_neg hwi)
      have v2 := st_visit (S := { S with head := S.head + 1 }) hw' hs (l := -e.lit) (wi_neg hwi)
      have v3 := fr_visit { S with head := S.head + 1 } (-e.lit)
      have v4 : Fr { S with head := (visit { S with head := S.head + 1 } (-e.lit)).1.head } (visit { S with head := S.head + 1 } (-e.lit)).1 := { v3 with head := rfl }
      split
      · obtain ⟨a, b, c⟩ := spreadN_inv n _ v1 v2
        refine ⟨a, b, ?_⟩
        refine Fr.trans (S1 := { (visit { S with head := S.head + 1 } (-e.lit)).1 with head := (spreadN n (visit { S with head := S.head + 1 } (-e.lit)).1).1.head }) ?_ c
        exact { v3 with head := rfl }
      · exact ⟨v1, v2, v4⟩
theorem WF.spread {S : ES} (h : WF S) : WF (spread S).1 := by
  unfold Eng.spread
  split
  · exact h
  dsimp only
  have hsh : WfE (shorts S).1 ∧ StE (shorts S).1 ∧ Fr S (shorts S).1 := by
    unfold shorts
    split
    · have := sfold_inv S.short (S, true) h.toWfE h.st
      exact ⟨this.1, this.2, fr_sfold S.short (S, true)⟩
    · exact ⟨h.toWfE, h.st, Fr.refl _⟩
  obtain ⟨a, b, c⟩ := hsh
  have h1 : ∀ {S1 : ES}, WfE S1 → StE S1 → Fr { S with head := S1.head } S1 → ∀ (r cl : Bool), WF { S1 with rest := r, clash := cl } := fun {S1} hw hs hf r cl =>
    ⟨⟨⟨hw.nv, hw.hl, hw.cl, hw.ll, hw.nd, hw.w1⟩, by show ∀ k ∈ S1.short, k < S1.H.length; rw [hf.short, hf.hlen]; exact h.sh, by show ∀ k ∈ S1.learnts, k < S1.H.length; rw [hf.learnts, hf.hlen]; exact h.le, by show S1.short.length ≤ _; rw [hf.short]; exact h.shl, by show S1.learnts.length ≤ _; rw [hf.learnts]; exact h.lel⟩, hs⟩
  split
  · obtain ⟨d, e, f⟩ := spreadN_inv S.nv (shorts S).1 a b
    refine h1 d e ?_ _ _
    refine Fr.trans (S1 := { (shorts S).1 with head := (spreadN S.nv (shorts S).1).1.head }) ?_ f
    exact { c with head := rfl }
  · exact h1 a b { c with head := rfl } _ _
theorem WF.dec {S : ES} (h : WF S) (l : Int) : WF (decS S l) := by
  unfold decS
  split
  · rename_i hd
    refine ⟨⟨⟨h.nv, h.hl, h.cl, h.ll, h.nd, h.w1⟩, h.sh, h.le, h.shl, h.lel⟩, ?_⟩
    unfold decA at hd
    split at hd
    · cases hd
    · rename_i hf
      have hf := Classical.not_not.1 hf
      split at hd
      · cases hd
      · split at hd
        · cases hd
        · rename_i hv
          have hv : vl S l = 0 := by omega
          obtain ⟨ho, hop⟩ := Trail.freeA_open (vl_free (fl_wi hf.1 hf.2) hv)
          exact St.decide h.st ho hop
  · exact h
end Go.Proofs.Ytmhjehodfggleaa.Eng

/- An Engine in plain: what holds of it stays through New, Learn, Restart and Forget; the model in memory. -/
set_option linter.unusedVariables false
set_option linter.unusedSimpArgs false
set_option linter.unusedSectionVars false
set_option maxRecDepth 100000
namespace Go.Proofs.Ytmhjehodfggleaa.Eng
open Go Go.Proofs.Ytmhjehodfggleaa.Vc Go.Proofs.Ytmhjehodfggleaa.T
open Go.Proofs.Ytmhjehodfggleaa.Apart (RdL own_rdl wrap_nat getE own_len take_snoc Sl sv New LL)
open Go.Proofs.Ytmhjehodfggleaa.Lits (fl fl_iff Ans ans_of formedP idx idx_range idx_inj indexP Td Srt)
open Go.Proofs.Ytmhjehodfggleaa.Arn (Ar AR words off cw Got)
open Go.Proofs.Ytmhjehodfggleaa.Trail (TI Tr St valA levA reaA ownB Moved TLaid above upto freeA implA Open ent)
open Go.Proofs.Ytmhjehodfggleaa.Learn (En RdE LSpec Askd shr Learnt Shrunk)

theorem addC_row (S : ES) (c : List Int) : (addC S c).R = S.R ∧ (addC S c).L = S.L ∧ (addC S c).learnts = S.learnts ∧ (addC S c).log = S.log ∧ (addC S c).head = S.head ∧ (addC S c).rest = S.rest ∧ (addC S c).clash = S.clash ∧ (addC S c).dead = S.dead := by
  unfold addC
  split
  · exact ⟨rfl, rfl, rfl, rfl, rfl, rfl, rfl, rfl⟩
  · split <;> exact ⟨rfl, rfl, rfl, rfl, rfl, rfl, rfl, rfl⟩
theorem newE_ni {nv : Nat} (hnv : nv ≤ 1048576) {css : List (List Int)} (hn : css.length ≤ 1048576) (hl : ∀ es ∈ css, es.length ≤ 1048576) (hw : ∀ es ∈ css, ∀ x ∈ es, Wi nv x) :
    NI (newE nv css) css.length ∧ (newE nv css).nv = nv ∧ (newE nv css).R = [] ∧ (newE nv css).L = [] ∧ (newE nv css).learnts = [] ∧ (newE nv css).log = [] ∧ (newE nv css).head = 0 ∧ (newE nv css).rest = false ∧ (newE nv css).clash = false ∧ (newE nv css).dead = false := by
  have key : ∀ i, i ≤ css.length → NI ((css.take i).foldl addC (E0 nv)) i ∧ ((css.take i).foldl addC (E0 nv)).nv = nv ∧ ((css.take i).foldl addC (E0 nv)).R = [] ∧ ((css.take i).foldl addC (E0 nv)).L = [] ∧ ((css.take i).foldl addC (E0 nv)).learnts = [] ∧ ((css.take i).foldl addC (E0 nv)).log = [] ∧ ((css.take i).foldl addC (E0 nv)).head = 0 ∧ ((css.take i).foldl addC (E0 nv)).rest = false ∧ ((css.take i).foldl addC (E0 nv)).clash = false ∧ ((css.take i).foldl addC (E0 nv)).dead = false := fun i => by
    induction i with
    | zero => exact fun _ => ⟨ni0 hnv, rfl, rfl, rfl, rfl, rfl, rfl, rfl, rfl, rfl⟩
    | succ i ih =>
      intro hi
      obtain ⟨h1, h2, h3, h4, h5, h6, h7, h8, h9, h10⟩ := ih (by omega)
      obtain ⟨es, hes⟩ := getE (show i < css.length by omega)
      have hem := List.mem_of_getElem? hes
      rw [take_snocN hes, List.foldl_append]
      obtain ⟨r1, r2, r3, r4, r5, r6, r7, r8⟩ := addC_row ((css.take i).foldl addC (E0 nv)) es
      obtain ⟨_, r0, _, _⟩ := addC_ar ((css.take i).foldl addC (E0 nv)) es
      exact ⟨h1.step (by rw [h2]; exact hw es hem) (hl es hem) (by omega), r0.trans h2, r1.trans h3, r2.trans h4, r3.trans h5, r4.trans h6, r5.trans h7, r6.trans h8, r7.trans h9, r8.trans h10⟩
  have := key css.length (Nat.le_refl _)
  rw [List.take_length] at this
  exact this
theorem newE_wf {nv : Nat} (hnv : nv ≤ 1048576) {css : List (List Int)} (hn : css.length ≤ 1048576) (hl : ∀ es ∈ css, es.length ≤ 1048576) (hw : ∀ es ∈ css, ∀ x ∈ es, Wi nv x) : WF (newE nv css) := by
  obtain ⟨h1, h2, h3, h4, _⟩ := newE_ni hnv hn hl hw
  refine ⟨h1.wf, ?_⟩
  unfold StE
  rw [h3, h4]
  exact .nil
theorem st_upto {n : Nat} {R : List E} {L : List Int} (h : St n R L) {k : Int} (hk0 : 0 ≤ k) (hk : k ≤ L.length) : St n (upto k R) (L.take k.toNat) := by
  obtain ⟨m, rfl⟩ : ∃ m : Nat, k = m := ⟨k.toNat, by omega⟩
  rw [Int.toNat_natCast]
  by_cases hm : m < L.length
  · obtain ⟨fr, e1, e2, s1, s2, s3⟩ := h.back m _ (List.getElem?_eq_getElem hm)
    obtain ⟨a1, a2⟩ := Trail.above_drop s2 s3
    rw [a2]; exact s1
  · obtain rfl : m = L.length := by omega
    obtain ⟨a1, a2⟩ := Trail.above_top h (Int.le_refl _)
    rw [a2, List.take_length]; exact h
theorem WF.cut {S : ES} (h : WF S) {k : Int} (hk0 : 0 ≤ k) (hk : k ≤ S.L.length) : WF (cutS S k) :=
  ⟨⟨⟨h.nv, h.hl, h.cl, h.ll, h.nd, h.w1⟩, h.sh, h.le, h.shl, h.lel⟩, st_upto h.st hk0 hk⟩
theorem WF.self {S : ES} (h : WF S) (hd : Nat) (r c d : Bool) (x : Int) : WF { S with head := hd, rest := r, clash := c, dead := d, bad := x } :=
  ⟨⟨⟨h.nv, h.hl, h.cl, h.ll, h.nd, h.w1⟩, h.sh, h.le, h.shl, h.lel⟩, h.st⟩
theorem WF.note {S : ES} (h : WF S) (dr : Bool) (cs : List Int) : WF (noteS S dr cs) := ⟨⟨⟨h.nv, h.hl, h.cl, h.ll, h.nd, h.w1⟩, h.sh, h.le, h.shl, h.lel⟩, h.st⟩
theorem WF.learn {S : ES} (h : WF S) {back : Int} {s : List Int} (hcl : S.H.length + 1 ≤ 8796093022208) (hle : S.learnts.length + 1 ≤ 8796093022208) (hne : s ≠ []) (hw : ∀ x ∈ s, Wi S.nv x) (hnd : s.Nodup) (hsl : s.length ≤ 2097153) (hb0 : 0 ≤ back) (hbl : back ≤ S.L.length) (hf : freeA S.nv (upto back S.R) (s.headD 0) = 0) : WF (learnT S back s) := by
  have hat : 0 ≤ atN S := by unfold atN; omega
  have hN : (∀ x ∈ (newHd S s).ls, Wi S.nv x) ∧ (newHd S s).ls.Nodup ∧ (newHd S s).ls.length ≤ 2097153 ∧ 0 ≤ (newHd S s).at_ := ⟨hw, hnd, hsl, hat⟩
  have h1 : WfS (putAr (noteS { S with clash := false } false s) s) := ⟨⟨h.nv, h.hl, h.cl, h.ll, h.nd, h.w1⟩, h.sh, h.le, h.shl, h.lel⟩
  have h2 := WfS.snocH (S := putAr (noteS { S with clash := false } false s) s) (d := newHd S s) h1 hN hcl
  have hlen : (S.H ++ [newHd S s]).length = S.H.length + 1 := by rw [List.length_append]; rfl
  have h3 : WfS (heldS S s) := ⟨⟨h2.nv, h2.hl, h2.cl, h2.ll, h2.nd, h2.w1⟩, h2.sh, fun j hj => by
    rcases List.mem_append.1 hj with hj | hj
    · exact h2.le j hj
    · rw [List.mem_singleton.1 hj]; show S.H.length < (S.H ++ [newHd S s]).length; omega, h2.shl, by show (S.learnts ++ [S.H.length]).length ≤ _; rw [List.length_append]; exact hle⟩
  have h4 : WfS (eyesS S s) := by
    unfold eyesS
    split
    · rename_i hl
      have hxs : ∃ x y zs, s = x :: y :: zs := by
        cases s with
        | nil => exact absurd rfl hne
        | cons x xs => cases xs with
          | nil => simp at hl
          | cons y zs => exact ⟨x, y, zs, rfl⟩
      obtain ⟨x, y, zs, rfl⟩ := hxs
      have hm : maxL S (y :: zs) ∈ y :: zs := maxL_mem S (by simp)
      refine h3.watch (k := S.H.length) (d := newHd S (x :: y :: zs)) (by show (S.H ++ [_])[S.H.length]? = _; rw [List.getElem?_append_right (Nat.le_refl _), Nat.sub_self]; rfl) (fun i ids hi hk => by have := h.lt1 hi hk; omega) (by show x ∈ _; simp [newHd]) (List.mem_cons_of_mem _ hm) ?_
      show x ≠ maxL S (y :: zs)
      rw [List.nodup_cons] at hnd
      intro e
      exact hnd.1 (by rw [e]; exact hm)
    · exact h3
  have q : (eyesS S s).R = S.R ∧ (eyesS S s).L = S.L ∧ (eyesS S s).nv = S.nv := by
    unfold eyesS; split <;> exact ⟨rfl, rfl, rfl⟩
  have h5 : WF (eyesS S s) := ⟨h4, by unfold StE; rw [q.1, q.2.1, q.2.2]; exact h.st⟩
  have h6 := h5.cut hb0 (by rw [q.2.1]; exact hbl)
  obtain ⟨ho, hop⟩ := Trail.freeA_open hf
  refine ⟨⟨⟨h6.nv, h6.hl, h6.cl, h6.ll, h6.nd, h6.w1⟩, h6.sh, h6.le, h6.shl, h6.lel⟩, ?_⟩
  have ho' : ownB (cutS (eyesS S s) back).nv (s.headD 0) = true := by show ownB (eyesS S s).nv _ = true; rw [q.2.2]; exact ho
  have hop' : Trail.Open (cutS (eyesS S s) back).R (s.headD 0) := by show Trail.Open (upto back (eyesS S s).R) _; rw [q.1]; exact hop
  exact St.imply h6.st ho' hop' hat
theorem WF.forget {S : ES} (h : WF S) (i : Int) : WF (forget S i).2 := by
  unfold Eng.forget
  split
  · exact h
  · split
    · exact h
    · split
      · exact h
      · rename_i k hk
        split
        · exact h
        · rename_i d hd
          split
          · exact h
          · have hkl := (List.getElem?_eq_some_iff.1 hd).1
            have hH : ∀ (j : Nat), (S.H.set k { d with gone := true })[j]? = if k = j then some { d with gone := true } else S.H[j]? := fun j => by
              rw [List.getElem?_set]
              by_cases hkj : k = j
              · rw [if_pos hkj, if_pos hkl, if_pos hkj]
              · rw [if_neg hkj, if_neg hkj]
            refine ⟨⟨⟨h.nv, fun j d' hj => ?_, by show (S.H.set k _).length ≤ _; rw [List.length_set]; exact h.cl, h.ll, h.nd, fun a j ids ha hj => ?_⟩, fun j hj => by show j < (S.H.set k _).length; rw [List.length_set]; exact h.sh j hj, fun j hj => by show j < (S.H.set k _).length; rw [List.length_set]; exact h.le j (List.mem_of_mem_eraseIdx hj), h.shl, ?_⟩, h.st⟩
            · have hj' : (S.H.set k { d with gone := true })[j]? = some d' := hj
              rw [hH] at hj'
              split at hj'
              · injection hj' with hj'; rw [← hj']; exact h.hl k d hd
              · exact h.hl j d' hj'
            · obtain ⟨d1, hd1, r⟩ := h.w1 a j ids ha hj
              show ∃ d2, (S.H.set k { d with gone := true })[j]? = some d2 ∧ d2.e0 ∈ d2.ls ∧ d2.e1 ∈ d2.ls ∧ d2.e0 ≠ d2.e1 ∧ (a = idxN d2.e0 ∨ a = idxN d2.e1)
              rw [hH]
              by_cases hkj : k = j
              · subst hkj
                rw [hd] at hd1; injection hd1 with hd1; subst hd1
                exact ⟨_, if_pos rfl, r⟩
              · exact ⟨d1, by rw [if_neg hkj]; exact hd1, r⟩
            · show (S.learnts.eraseIdx _).length ≤ _
              have h1 : (S.learnts.eraseIdx i.toNat).length ≤ S.learnts.length := (List.eraseIdx_sublist _ _).length_le
              exact Nat.le_trans h1 h.lel
end Go.Proofs.Ytmhjehodfggleaa.Eng

/- The numbers' Engine in plain. -/
set_option linter.unusedVariables false
set_option linter.unusedSimpArgs false
set_option linter.unusedSectionVars false
set_option maxRecDepth 100000
namespace Go.Proofs.Ytmhjehodfggleaa.Eng
open Go Go.Proofs.Ytmhjehodfggleaa.Vc Go.Proofs.Ytmhjehodfggleaa.T
open Go.Proofs.Ytmhjehodfggleaa.Trail (TI Tr St valA levA reaA ownB Moved TLaid above upto freeA implA ent)
open Go.Proofs.Ytmhjehodfggleaa.Learn (En RdE LSpec Askd shr Mx Lrn Gt Fm Fals lvl Good Alone nxt Kp)
open Go.Proofs.Ytmhjehodfggleaa.Lits (Td)
def nF : List (List Int) := [[-1, -2], [-1, 2], [1, 3]]
def n0 : ES := newE 3 nF
def n1 : ES := (spread n0).1
def n2 : ES := decS n1 1
def n3 : ES := (spread n2).1
def n4 : ES := learnT n3 0 [-1]
def n5 : ES := (spread n4).1
theorem n0_dec : decA n0 1 = 3 := by kernel_rfl
theorem n0_sp : (spread n0).2 = true := by kernel_rfl
theorem n1_dec : decA n1 4 = 1 := by kernel_rfl
theorem n1_for : (forget n1 0).1 = 2 := by kernel_rfl
theorem n1_dec1 : decA n1 1 = 0 := by kernel_rfl
theorem n2_sp : (spread n2).2 = false := by kernel_rfl
theorem n3_cl : n3.clash = true := by kernel_rfl
theorem n3_es : entS n3 = [⟨1, 1, []⟩, ⟨-2, 1, [-1, -2]⟩] := by kernel_rfl
theorem n3_bad : arGet n3.ar n3.bad = [-1, 2] := by kernel_rfl
theorem n3_nv : n3.nv = 3 := by kernel_rfl
theorem n3_up : freeA n3.nv (upto 0 n3.R) (([-1] : List Int).headD 0) = 0 := by kernel_rfl
theorem n3_L : n3.L.length = 1 := by kernel_rfl
theorem n3_w : (Arn.words n3.ar.cs).length = 9 := by kernel_rfl
theorem n3_c : n3.ar.cs.length = 3 := by kernel_rfl
theorem n3_log : n3.log = [] := by kernel_rfl
theorem n3_h : n3.H.length = 3 := by kernel_rfl
theorem n3_l : n3.learnts = [] := by kernel_rfl
theorem n4_sp : (spread n4).2 = true := by kernel_rfl
theorem n5_dec : decA n5 3 = 50 := by kernel_rfl
theorem n5_for : (forget n5 0).1 = 160 := by kernel_rfl
def nE : List En := [⟨1, 1, []⟩, ⟨-2, 1, [-1, -2]⟩]
theorem ng1 : Learn.neg 1 = -1 := by kernel_rfl
theorem ngm1 : Learn.neg (-1) = 1 := by kernel_rfl
theorem ng2 : Learn.neg 2 = -2 := by kernel_rfl
theorem ngm2 : Learn.neg (-2) = 2 := by kernel_rfl
theorem lv1 : lvl nE (-1) = 1 := by kernel_rfl
theorem lv2 : lvl nE 2 = 1 := by kernel_rfl
theorem nE_at {i : Nat} {x : En} (h : nE[i]? = some x) : (i = 0 ∧ x = ⟨1, 1, []⟩) ∨ (i = 1 ∧ x = ⟨-2, 1, [-1, -2]⟩) := by
  unfold nE at h
  match i with
  | 0 => left; exact ⟨rfl, by simpa using h.symm⟩
  | 1 => right; exact ⟨rfl, by simpa using h.symm⟩
  | n + 2 => simp at h
theorem nE_fm : Fm nE := by
  intro i x hx
  rcases nE_at hx with ⟨rfl, rfl⟩ | ⟨rfl, rfl⟩
  · exact ⟨by decide, (fun y hy => by cases hy), ⟨Or.inr (by kernel_rfl), Or.inr ⟨fun _ => rfl, (fun _ => by decide)⟩⟩, fun h => absurd rfl h⟩
  · refine ⟨by decide, fun y hy => ?_, ⟨Or.inl rfl, Or.inr ⟨fun h => absurd rfl h, fun h => by cases h⟩⟩, fun _ => ⟨by decide, by decide, fun l hl hne => ?_⟩⟩
    · have hy : y = ⟨1, 1, []⟩ := by simpa [nE] using hy
      subst hy
      exact ⟨by decide, by rw [ngm2]; decide⟩
    · have hl : l = -1 ∨ l = -2 := by simpa using hl
      rcases hl with rfl | rfl
      · exact ⟨⟨1, 1, []⟩, by simp [nE], ngm1.symm⟩
      · exact absurd rfl hne
theorem nE_in1 : ∃ y ∈ nE, y.lit = Learn.neg (-1) := ⟨⟨1, 1, []⟩, by simp [nE], ngm1.symm⟩
theorem nE_in2 : ∃ y ∈ nE, y.lit = Learn.neg 2 := ⟨⟨-2, 1, [-1, -2]⟩, by simp [nE], ng2.symm⟩
theorem n_askd2 : Askd nE [-1, 2] 0 := Or.inr (Or.inr ⟨rfl, fun l hl => by
  have hl : l = -1 ∨ l = 2 := by simpa using hl
  rcases hl with rfl | rfl
  · exact nE_in1
  · exact nE_in2, nE_fm, by decide⟩)
theorem n_askd1 : Askd nE [-1] 0 := Or.inr (Or.inr ⟨rfl, fun l hl => by
  have hl : l = -1 := by simpa using hl
  rw [hl]; exact nE_in1, nE_fm, by decide⟩)
def nX : En := ⟨-2, 1, [-1, -2]⟩
theorem n_nxt (l : Int) : nxt (fun l => l ∈ ([-1, 2] : List Int)) nX l ↔ l = -1 := by
  unfold nxt
  show ((l ∈ ([-1, 2] : List Int) ∧ l ≠ Learn.neg (-2)) ∨ (l ∈ ([-1, -2] : List Int) ∧ l ≠ -2)) ↔ l = -1
  rw [ngm2]
  simp only [List.mem_cons, List.not_mem_nil, or_false]
  omega
theorem n_lrn : Lrn nE 1 (fun l => l ∈ ([-1, 2] : List Int)) (-1) (nxt (fun l => l ∈ ([-1, 2] : List Int)) nX) := by
  refine Lrn.step (i := 1) (x := nX) ⟨rfl, rfl, ?_, fun j y hj hy => ?_⟩ (fun ha => ?_) ?_
  · show Learn.neg (-2) ∈ ([-1, 2] : List Int)
    rw [ngm2]; decide
  · rcases nE_at hy with ⟨rfl, _⟩ | ⟨rfl, _⟩ <;> omega
  · have := ha (-1) (by decide) lv1
    have h2 : Learn.neg nX.lit = 2 := ngm2
    rw [h2] at this
    exact absurd this (by decide)
  · have hd := Lrn.done (es := nE) (top := 1) (S := nxt (fun l => l ∈ ([-1, 2] : List Int)) nX) (i := 0) (x := ⟨1, 1, []⟩) ⟨rfl, rfl, (n_nxt _).2 ng1, fun j y hj hy _ => ?_⟩ fun l hl _ => by rw [(n_nxt l).1 hl]; exact ng1.symm
    · have h2 : Learn.neg (⟨1, 1, []⟩ : En).lit = -1 := ng1
      rw [h2] at hd
      exact hd
    · rcases nE_at hy with ⟨rfl, _⟩ | ⟨rfl, rfl⟩
      · omega
      · rw [n_nxt]
        show ¬ Learn.neg (-2) = -1
        rw [ngm2]; decide
theorem n_lspec : LSpec nE [-1, 2] 0 0 [-1] := by
  refine ⟨n_askd2, Or.inr ⟨rfl, 1, ⟨fun l hl => ?_, by decide, Or.inr ⟨-1, by decide, lv1⟩⟩, Or.inr ⟨by decide, -1, _, [], n_lrn, Td.nil fun x _ hx => ?_, rfl, Mx.nil fun l hl => by cases hl⟩⟩⟩
  · have hl : l = -1 ∨ l = 2 := by simpa using hl
    rcases hl with rfl | rfl
    · rw [lv1]; decide
    · rw [lv2]; decide
  · exact hx.2.1 ((n_nxt x).1 hx.1)
theorem n_shr : [-1] = shr nE [-1] ([-1] : List Int).length := by
  have := Learn.shr_yes (es := nE) (cl := [-1]) (i := 0) (l := -1) rfl ⟨by simp, Or.inl rfl⟩
  exact this.symm
theorem n_ok : LOk n3 0 0 [-1] [-1] := by
  have e1 : entS n3 = nE := n3_es
  refine ⟨by rw [e1, n3_bad]; exact n_lspec, fun x hx => ?_, by rw [n3_bad]; decide, by rw [n3_w]; decide, by rw [n3_c]; decide, by rw [n3_log]; decide, by decide, fun _ => ⟨by rw [e1]; exact n_askd1, by rw [e1]; exact n_shr, by decide, fun x hx => ?_, by decide, by decide, n3_up⟩⟩
  · rw [e1] at hx
    have hx : x = ⟨1, 1, []⟩ ∨ x = ⟨-2, 1, [-1, -2]⟩ := by simpa [nE] using hx
    rcases hx with rfl | rfl <;> decide
  · have hx : x = -1 := by simpa using hx
    rw [hx, n3_nv]
    exact ⟨by decide, by decide, by decide⟩
theorem n_wf0 : WF n0 := newE_wf (by decide) (by decide) (by decide) (by unfold Wi; decide)
theorem n_wf1 : WF n1 := n_wf0.spread
theorem n_wf2 : WF n2 := n_wf1.dec 1
theorem n_wf3 : WF n3 := n_wf2.spread
theorem n_wf4 : WF n4 := n_wf3.learn (by rw [n3_h]; decide) (by rw [n3_l]; decide) (by decide) (fun x hx => by
  have hx : x = -1 := by simpa using hx
  rw [hx, n3_nv]; exact ⟨by decide, by decide, by decide⟩) (by decide) (by decide) (by decide) (by rw [n3_L]; decide) n3_up
theorem n_wf5 : WF n5 := n_wf4.spread
end Go.Proofs.Ytmhjehodfggleaa.Eng

/- The conditions under which the functions printed here return, as propositions over typed values; each is the machine's own, by the generator's theorem. -/
set_option linter.unusedVariables false
set_option maxRecDepth 100000
namespace Go.Proofs.Ytmhjehodfggleaa.T
open Go Go.Proofs.Ytmhjehodfggleaa.Vc
/-! depot/depotlaw16.EngineNumbers -/
def V3  (w : World) (R : Value → World → Prop) : Prop :=
  alc w [.int .i64 2] 3 fun b3 w1 =>
  alc w1 [.slice (some (⟨b3, 0, none⟩ : Addr)) 1 1] 26 fun b4 w2 =>
  cl Try.prog 5 [.agg #[.int .i64 1, .slice (some (⟨b4, 0, none⟩ : Addr)) 1 1]] w2 fun e7 w3 => ∃ x5 : Option Addr, ∃ x6 : Int, e7 = Ending.returned (.tuple #[.pointer x5, .int .i64 x6]) ∧
  alc w3 [.int .i64 (-1), .int .i64 (-2)] 3 fun b9 w4 =>
  alc w4 [.int .i64 (-1), .int .i64 2] 3 fun b10 w5 =>
  alc w5 [.int .i64 1, .int .i64 3] 3 fun b11 w6 =>
  alc w6 [.slice (some (⟨b9, 0, none⟩ : Addr)) 2 2, .slice (some (⟨b10, 0, none⟩ : Addr)) 2 2, .slice (some (⟨b11, 0, none⟩ : Addr)) 2 2] 26 fun b12 w7 =>
  cl Try.prog 5 [.agg #[.int .i64 3, .slice (some (⟨b12, 0, none⟩ : Addr)) 3 3]] w7 fun e15 w8 => ∃ x13 : Option Addr, ∃ x14 : Int, e15 = Ending.returned (.tuple #[.pointer x13, .int .i64 x14]) ∧
  pif (cond (cond (cond (!(Option.isNone x5)) true (Option.isNone x13)) true (x6 != 1)) true (x14 != 0)) (
    R (.bool false) w8) (
    cl Try.prog 6 [.pointer x13, .int .i64 1] w8 fun e20 w9 => ∃ x19 : Int, e20 = Ending.returned (.int .i64 x19) ∧
    cl Try.prog 7 [.pointer x13] w9 fun e23 w10 => ∃ x22 : Bool, e23 = Ending.returned (.bool x22) ∧
    cl Try.prog 6 [.pointer x13, .int .i64 4] w10 fun e26 w11 => ∃ x25 : Int, e26 = Ending.returned (.int .i64 x25) ∧
    cl Try.prog 8 [.pointer x13, .int .i64 0] w11 fun e29 w12 => ∃ x28 : Int, e29 = Ending.returned (.int .i64 x28) ∧
    cl Try.prog 6 [.pointer x13, .int .i64 1] w12 fun e32 w13 => ∃ x31 : Int, e32 = Ending.returned (.int .i64 x31) ∧
    cl Try.prog 7 [.pointer x13] w13 fun e35 w14 => ∃ x34 : Bool, e35 = Ending.returned (.bool x34) ∧
    cl Try.prog 9 [.pointer x13] w14 fun e40 w15 => ∃ (x37 : Option Addr) (x37n x37c : Nat), ∃ x38 : Int, ∃ x39 : Int, e40 = Ending.returned (.tuple #[.slice x37 x37n x37c, .int .i64 x38, .int .i64 x39]) ∧
    gd (α := (Option Addr × Nat × Nat)) (!(cond (cond (cond (cond (cond (cond (!x22) true x34) true (x19 != 3)) true (x25 != 1)) true (x28 != 2)) true (x39 != 0)) true (x38 != 0))) (fun k42 =>
      alc w15 [.int .i64 (-1)] 3 fun b43 w16 =>
      k42 ((some (⟨b43, 0, none⟩ : Addr)), 1, 1) w16) (none, 0, 0) w15 fun x44 w17 =>
    gd (α := Bool) (!(cond (cond (cond (cond (cond (cond (!x22) true x34) true (x19 != 3)) true (x25 != 1)) true (x28 != 2)) true (x39 != 0)) true (x38 != 0))) (fun k45 =>
      cl Try.prog 10 [.slice x37 x37n x37c, .slice x44.1 x44.2.1 x44.2.2] w17 fun e47 w18 => ∃ x46 : Bool, e47 = Ending.returned (.bool x46) ∧
      k45 x46 w18) false w17 fun x48 w19 =>
    pif (cond (cond (cond (cond (cond (cond (cond (!x22) true x34) true (x19 != 3)) true (x25 != 1)) true (x28 != 2)) true (x39 != 0)) true (x38 != 0)) true (!x48)) (
      R (.bool false) w19) (
      jn (σ := Int × Unit) (fun k52 =>
        cl Try.prog 7 [.pointer x13] w19 fun e56 w21 => ∃ x55 : Bool, e56 = Ending.returned (.bool x55) ∧
        pif x55 (
          cl Try.prog 6 [.pointer x13, .int .i64 3] w21 fun e59 w22 => ∃ x58 : Int, e59 = Ending.returned (.int .i64 x58) ∧
          k52 (x58, ()) w22) (
          k52 (0, ()) w21)) fun s53 w20 => match s53 with
      | (v51, _) =>
      cl Try.prog 8 [.pointer x13, .int .i64 0] w20 fun e62 w23 => ∃ x61 : Int, e62 = Ending.returned (.int .i64 x61) ∧
      R (.bool (cond (v51 == 50) (x61 == 160) false)) w23))
def An3 : An := .seq (.leaf) (.seq (.leaf) (.seq (.leaf) (.seq (.seq (.leaf) (.cond (.seq (.leaf) (.leaf)) (.leaf))) (.seq (.leaf) (.seq (.leaf) (.seq (.leaf) (.seq (.leaf) (.seq (.leaf) (.seq (.leaf) (.seq (.leaf) (.seq (.seq (.leaf) (.cond (.seq (.leaf) (.leaf)) (.leaf))) (.seq (.leaf) (.seq (.join [(13, .one (.int .i64))] (.seq (.leaf) (.cond (.leaf) (.leaf)))) (.seq (.leaf) (.seq (.leaf) (.leaf))))))))))))))))
theorem V3_eq  (w : World) (R : Value → World → Prop) : evF Try.prog Try.f3 An3 [] w R = V3  w R := by kernel_rfl
theorem V3_calls  (w : World) (R : Value → World → Prop) (h : V3  w R) : Calls Try.prog 3 #[] w fun e w' => ∃ v, e = .returned v ∧ R v w' :=
  calls_of_ev (args := []) Try.func3 (Nat.le_of_ble_eq_true (by kernel_rfl)) (by rw [V3_eq]; exact h)
theorem ok3 : fnOk Try.prog 3 = true := by kernel_rfl

end Go.Proofs.Ytmhjehodfggleaa.T

/- EngineNumbers: the numbers of the refusals. -/
set_option linter.unusedVariables false
set_option linter.unusedSimpArgs false
set_option linter.unusedSectionVars false
set_option maxRecDepth 100000
namespace Go.Proofs.Ytmhjehodfggleaa.Eng
open Go Go.Proofs.Ytmhjehodfggleaa.Vc Go.Proofs.Ytmhjehodfggleaa.T
open Go.Proofs.Ytmhjehodfggleaa.Apart (RdL own_rdl wrap_nat getE own_len take_snoc Sl sv New LL)
open Go.Proofs.Ytmhjehodfggleaa.Lits (fl fl_iff)

/-- a few ints in a block -/
theorem blk_rdl {w : World} {b : Nat} {xs : List Int} {t : TypeId} (h : Blk w b (xs.map I) t) : RdL w (some ⟨b, 0, none⟩) xs.length xs :=
  ⟨rfl, fun i x hx => ⟨_, rfl, by rw [add_mk, Nat.zero_add, h.cell, List.getElem?_map, hx]; rfl⟩⟩
theorem law3 (w : World) : Calls Try.prog 3 #[] w fun e w' => e = .returned (.bool true) ∧ RowKit.Below w.heap.size w w' := by
  refine (V3_calls w (fun v w' => v = .bool true ∧ Keep None w w') ?_).mono fun e w' ⟨v, he, hv, hk⟩ => ⟨by rw [he, hv], hk.below0⟩
  unfold V3
  refine alc_at fun b3 w1 hb3 hB3 k1 => ?_
  refine alc_at fun b4 w2 hb4 hB4 k2 => ?_
  have z1 := k1.size
  have z2 := k2.size
  have k02 := k1.then0 k2
  have l3 := hB3.lt
  have l4 := hB4.lt
  have hC1 : RdC (fun j => j = b3 ∨ j = b4) w2 (some ⟨b4, 0, none⟩) 1 [[2]] := ⟨rfl, fun i es hi => by
    match i with
    | 0 =>
      have : es = [2] := by simpa using hi.symm
      subst this
      exact ⟨⟨b4, 0, none⟩, some ⟨b3, 0, none⟩, 1, 1, rfl, by rw [add_mk]; exact hB4.cell 0, blk_rdl (xs := [2]) (hB3.keep0 k2), Or.inr rfl, (fun j hj _ => Or.inl (by obtain ⟨a, ha, rfl⟩ := hj; cases ha; rfl)), fun h => by cases h⟩
    | n + 1 => simp at hi⟩
  refine cl_of ok5 (new5 hC1 (fun j hj => by rcases hj with rfl | rfl <;> omega) (by decide) (by decide)) fun e w3 ⟨v, he, hv⟩ => ?_
  rcases hv with ⟨_, rfl, k3⟩ | ⟨hF, _⟩
  rotate_left
  · exact absurd (hF.2.2 [2] (by simp) 2 (by simp)) (by unfold Wi; decide)
  refine ⟨none, 1, he, ?_⟩
  refine alc_at fun b9 w4 hb9 hB9 k4 => alc_at fun b10 w5 hb10 hB10 k5 => alc_at fun b11 w6 hb11 hB11 k6 => alc_at fun b12 w7 hb12 hB12 k7 => ?_
  have z3 := k3.size
  have z4 := k4.size
  have z5 := k5.size
  have z6 := k6.size
  have z7 := k7.size
  have l9 := hB9.lt
  have l10 := hB10.lt
  have l11 := hB11.lt
  have l12 := hB12.lt
  have k07 := ((((k02.then0 k3).then0 k4).then0 k5).then0 k6).then0 k7
  have h9 := ((hB9.keep0 k5).keep0 k6).keep0 k7
  have h10 := (hB10.keep0 k6).keep0 k7
  have h11 := hB11.keep0 k7
  have hC : RdC (fun j => j = b9 ∨ j = b10 ∨ j = b11 ∨ j = b12) w7 (some ⟨b12, 0, none⟩) 3 nF := ⟨rfl, fun i es hi => by
    unfold nF at hi
    match i with
    | 0 =>
      have : es = [-1, -2] := by simpa using hi.symm
      subst this
      exact ⟨⟨b12, 0, none⟩, some ⟨b9, 0, none⟩, 2, 2, rfl, by rw [add_mk]; exact hB12.cell 0, blk_rdl (xs := [-1, -2]) h9, Or.inr (Or.inr (Or.inr rfl)), (fun j hj _ => Or.inl (by obtain ⟨a, ha, rfl⟩ := hj; cases ha; rfl)), fun h => by cases h⟩
    | 1 =>
      have : es = [-1, 2] := by simpa using hi.symm
      subst this
      exact ⟨⟨b12, 0, none⟩, some ⟨b10, 0, none⟩, 2, 2, rfl, by rw [add_mk]; exact hB12.cell 1, blk_rdl (xs := [-1, 2]) h10, Or.inr (Or.inr (Or.inr rfl)), (fun j hj _ => Or.inr (Or.inl (by obtain ⟨a, ha, rfl⟩ := hj; cases ha; rfl))), fun h => by cases h⟩
    | 2 =>
      have : es = [1, 3] := by simpa using hi.symm
      subst this
      exact ⟨⟨b12, 0, none⟩, some ⟨b11, 0, none⟩, 2, 2, rfl, by rw [add_mk]; exact hB12.cell 2, blk_rdl (xs := [1, 3]) h11, Or.inr (Or.inr (Or.inr rfl)), (fun j hj _ => Or.inr (Or.inr (Or.inl (by obtain ⟨a, ha, rfl⟩ := hj; cases ha; rfl)))), fun h => by cases h⟩
    | n + 3 => simp at hi⟩
  refine cl_of ok5 (new5 hC (fun j hj => by rcases hj with rfl | rfl | rfl | rfl <;> omega) (by decide) (by decide)) fun e w8 ⟨v, he, hv⟩ => ?_
  rcases hv with ⟨hF, _⟩ | ⟨_, b, o, h, rfl, hR, k8, ho⟩
  · exact absurd (show FormedF 3 nF from ⟨by decide, by decide, by show ∀ c ∈ nF, ∀ x ∈ c, Wi 3 x; unfold Wi; decide⟩) hF
  refine ⟨_, _, he, pif_f rfl ?_⟩
  have hR : Rp noEx w8 b o h n0 := hR
  have k08 := k07.then0 k8
  -- steps
  have mv : ∀ {W1 W2 : World} {o1 o2 : Nat → Int} {T : Int → Prop}, ¬ T (-9) → (∀ j, j < w.heap.size → o1 j = -9) → Keep None w W1 → Ag W1 o1 o2 → Keep (fun i => T (o1 i)) W1 W2 → Keep None w W2 ∧ ∀ j, j < w.heap.size → o2 j = -9 := fun {W1 W2 o1 o2 T} hT h1 hk ha k => by
    refine ⟨hk.trans k fun j hj hh => ?_, fun j hj => ?_⟩
    · have hh' : T (o1 j) := hh
      rw [h1 j hj] at hh'; exact hT hh'
    · rw [ha j (by have := hk.size; omega)]; exact h1 j hj
  have ho8 : ∀ j, j < w.heap.size → o j = -9 := fun j hj => ho j (by have := k07.size; omega)
  have nP : ¬ tPutE (-9) := by intro hh; rcases hh with hh | hh | hh <;> omega
  have nM : ¬ tMine (-9) := fun h => h rfl
  refine cl_of ok6 (decide6 hR 1 (by decide)) fun e w9 ⟨he, o9, h9', r9, a9, k9, _⟩ => ⟨_, he, ?_⟩
  rw [show decS n0 1 = n0 by unfold decS; rw [if_neg (by rw [n0_dec]; decide)]] at r9
  obtain ⟨k09, ho9⟩ := mv nP ho8 k08 a9 k9
  refine cl_of ok7 (spread7 r9 n_wf0.toWfS) fun e w10 ⟨he, o10, h10', r10, a10, k10, _⟩ => ⟨_, he, ?_⟩
  obtain ⟨k010, ho10⟩ := mv nM ho9 k09 a10 k10
  have r10 : Rp noEx w10 b o10 h10' n1 := r10
  refine cl_of ok6 (decide6 r10 4 (by decide)) fun e w11 ⟨he, o11, h11', r11, a11, k11, _⟩ => ⟨_, he, ?_⟩
  rw [show decS n1 4 = n1 by unfold decS; rw [if_neg (by rw [n1_dec]; decide)]] at r11
  obtain ⟨k011, ho11⟩ := mv nP ho10 k010 a11 k11
  have e1S : entS n1 = [] := by kernel_rfl
  refine cl_of ok8 (forget8 r11 n_wf1.toWfS (by rw [e1S]; intro x hx; cases hx) (by rw [show (Arn.words n1.ar.cs).length = 9 by kernel_rfl]; decide) (by rw [show n1.log = [] by kernel_rfl]; decide) 0) fun e w12 ⟨he, o12, h12', r12, a12, k12, _⟩ => ⟨_, he, ?_⟩
  rw [show (forget n1 0).2 = n1 by kernel_rfl] at r12
  obtain ⟨k012, ho12⟩ := mv nM ho11 k011 a12 k12
  refine cl_of ok6 (decide6 r12 1 (by decide)) fun e w13 ⟨he, o13, h13', r13, a13, k13, _⟩ => ⟨_, he, ?_⟩
  have r13 : Rp noEx w13 b o13 h13' n2 := r13
  obtain ⟨k013, ho13⟩ := mv nP ho12 k012 a13 k13
  refine cl_of ok7 (spread7 r13 n_wf2.toWfS) fun e w14 ⟨he, o14, h14', r14, a14, k14, _⟩ => ⟨_, he, ?_⟩
  have r14 : Rp noEx w14 b o14 h14' n3 := r14
  obtain ⟨k014, ho14⟩ := mv nM ho13 k013 a14 k14
  refine cl_of ok9 (learn9 r14 n_wf3.toWfS n3_cl n_ok) fun e w15 hLn => ?_
  rcases hLn with ⟨hbad, _⟩ | ⟨_, lp, lc, o15, h15', he, hO15, hlp, r15, a15, k15⟩
  · cases hbad
  refine ⟨lp, _, lc, _, _, he, ?_⟩
  have r15 : Rp noEx w15 b o15 h15' n4 := r15
  obtain ⟨k015, ho15⟩ := mv nM ho14 k014 a15 k15
  rw [n0_dec, n0_sp, n1_dec, n1_for, n2_sp]
  refine gd_t rfl (alc_at fun b43 w16 hb43 hB43 k16 => gd_t rfl ?_)
  refine cl_of ok10 (Apart.same (own_rdl (hO15.keep0 k16)) (blk_rdl (xs := [-1]) hB43) (by decide)) fun e w18 ⟨he, k18⟩ => ⟨_, he, ?_⟩
  have k168 := k16.then0 k18
  have r18 := r15.keep0 k168
  have k018 := k015.then0 k168
  refine pif_f rfl ?_
  refine ⟨fun s W => s.1 = 50 ∧ Keep None w W ∧ ∃ o1 h1, Rp noEx W b o1 h1 n5 ∧ ∀ j, j < w.heap.size → o1 j = -9, ?_, ?_⟩
  · refine cl_of ok7 (spread7 r18 n_wf4.toWfS) fun e w21 ⟨he, o21, h21', r21, a21, k21, _⟩ => ⟨_, he, ?_⟩
    obtain ⟨k021, ho21⟩ := mv nM ho15 k018 a21 k21
    have r21 : Rp noEx w21 b o21 h21' n5 := r21
    rw [n4_sp]
    refine pif_t rfl (cl_of ok6 (decide6 r21 3 (by decide)) fun e w22 ⟨he, o22, h22', r22, a22, k22, _⟩ => ⟨_, he, n5_dec, ?_⟩)
    rw [show decS n5 3 = n5 by unfold decS; rw [if_neg (by rw [n5_dec]; decide)]] at r22
    obtain ⟨k022, ho22⟩ := mv nP ho21 k021 a22 k22
    exact ⟨k022, o22, h22', r22, ho22⟩
  rintro ⟨x, ⟨⟩⟩ w20 ⟨rfl, k020, o20, h20', r20, ho20⟩
  dsimp only
  have e5S : ∀ x ∈ entS n5, x.rs.length ≤ 1048576 := by
    rw [show entS n5 = [⟨-1, 0, [-1]⟩, ⟨3, 0, [1, 3]⟩] by kernel_rfl]
    intro x hx
    have hx : x = ⟨-1, 0, [-1]⟩ ∨ x = ⟨3, 0, [1, 3]⟩ := by simpa using hx
    rcases hx with rfl | rfl <;> decide
  refine cl_of ok8 (forget8 r20 n_wf5.toWfS e5S (by rw [show (Arn.words n5.ar.cs).length = 11 by kernel_rfl]; decide) (by rw [show n5.log.length = 1 by kernel_rfl]; decide) 0) fun e w23 ⟨he, o23, h23', r23, a23, k23, _⟩ => ⟨_, he, ?_⟩
  obtain ⟨k023, ho23⟩ := mv nM ho20 k020 a23 k23
  rw [n5_for]
  exact ⟨rfl, k023⟩
end Go.Proofs.Ytmhjehodfggleaa.Eng
