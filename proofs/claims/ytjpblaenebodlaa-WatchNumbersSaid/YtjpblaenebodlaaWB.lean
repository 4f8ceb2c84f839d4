/- Watch: what is cut off; lists of those that watch. -/
import Derived.Test.YtjpblaenebodlaaWA
set_option linter.unusedVariables false
set_option linter.unusedSimpArgs false
set_option linter.unusedSectionVars false
set_option maxRecDepth 100000
namespace Go.Proofs.Ytjpblaenebodlaa.Wt
open Go Go.Proofs.Ytjpblaenebodlaa.Vc Go.Proofs.Ytjpblaenebodlaa.T
open Go.Proofs.Ytjpblaenebodlaa.Apart (RdL own_rdl wrap_nat getE own_len copy same take_snoc Sl sv New)
open Go.Proofs.Ytjpblaenebodlaa.Lits (fl fl_iff idx idx_inj idx_range Ans ans_of indexP formedP)

theorem wi_fl {nv : Nat} (hnv : nv ≤ 1048576) {l : Int} (h : Wi nv l) : fl l = true := by
  obtain ⟨h0, h1, h2⟩ := h
  exact fl_iff.2 ⟨h0, by omega, by omega⟩
theorem var45 {w : World} {l : Int} (h : fl l = true) : Calls Try.prog 45 #[I l] w fun e w' => e = .returned (I (l.natAbs : Nat)) ∧ Keep None w w' := by
  refine ans_of (V45_calls l w (Ans w _) ?_)
  unfold V45
  obtain ⟨h0, h1, h2⟩ := fl_iff.1 h
  refine cl_of ok44 (formedP l) fun e w1 ⟨he, k1⟩ => ⟨_, he, ?_⟩
  rw [h]
  refine pif_f rfl ?_
  refine pif_of (fun hlt => ⟨?_, k1⟩) fun hge => ⟨?_, k1⟩
  · have hlt : l < 0 := by simpa using hlt
    congr 1
    rw [IntKind.wrap_i64]; omega
  · have hge : ¬ l < 0 := by simpa using hge
    congr 1
    omega
def idxN (l : Int) : Nat := (idx l).toNat
theorem idxN_lt {nv : Nat} {l : Int} (h : Wi nv l) : idxN l < 2 * nv := by
  obtain ⟨h0, h1, h2⟩ := h
  unfold idxN idx
  split <;> omega
theorem idxN_eq {nv : Nat} (hnv : nv ≤ 1048576) {l : Int} (h : Wi nv l) : idx l = (idxN l : Nat) := by
  have := idx_range (wi_fl hnv h)
  unfold idxN; omega
theorem idxN_inj {nv : Nat} (hnv : nv ≤ 1048576) {a c : Int} (ha : Wi nv a) (hc : Wi nv c) (h : idxN a = idxN c) : a = c :=
  idx_inj (wi_fl hnv ha) (wi_fl hnv hc) (by rw [idxN_eq hnv ha, idxN_eq hnv hc, h])
section
variable {ex : Nat → Prop} {w w' w1 w2 : World} {b : Nat} {o o' : Nat → Int} {h : Hs} {S : WS}
/-- what is left when other tags' blocks turn -/
theorem Rp.own {T : Int → Prop} {e : TypeId} {sz : Nat} {p : Option Addr} {n c : Nat} {xs : List Value} {t : Int} (hO : Own w e sz p n c xs) (ht : ∀ i, ob p i → o i = t) (hk : Keep (fun i => T (o i)) w w') (hne : ¬ T t) : Own w' e sz p n c xs :=
  hO.keep hk fun i hi hh => hne ((ht i hi) ▸ hh)
theorem Rp.selfK {T : Int → Prop} (hR : Rp ex w b o h S) (hk : Keep (fun i => T (o i)) w w') (hne : ¬ T (-6)) : Blk w' b [sv h.vv, sv h.tt, sv h.ss, I S.hd, sv h.oo, sv h.ll, .bool S.rest, .bool S.clash] 64 :=
  hR.self.keep hk fun hh => hne (hR.selfO ▸ hh)
theorem Rp.innK {T : Int → Prop} (hR : Rp ex w b o h S) (hk : Keep (fun i => T (o i)) w w') (hne : ∀ t : Int, 0 ≤ t → ¬ T t) : ∀ (i : Nat) (x : Sl) (ids : List Nat), h.hh[i]? = some x → S.ls[i]? = some ids → ¬ ex i → Own w' 74 1 x.1 x.2.1 x.2.2 (ids.map Pt) := fun i x ids hx hi hn =>
  (hR.inn i x ids hx hi hn).keep hk fun j hj hh => hne i (by omega) ((hR.innO i x hx j hj).1 ▸ hh)
theorem Rp.innOK {U : Nat → Prop} (hR : Rp ex w b o h S) (hk : Keep U w w') : ∀ (i : Nat) (x : Sl), h.hh[i]? = some x → ∀ j, ob x.1 j → o j = i ∧ j < w'.heap.size := fun i x hx j hj =>
  ⟨(hR.innO i x hx j hj).1, Nat.lt_of_lt_of_le (hR.innO i x hx j hj).2 hk.size⟩
theorem Rp.helK {T : Int → Prop} (hR : Rp ex w b o h S) (hk : Keep (fun i => T (o i)) w w') (h7 : ¬ T (-7)) (h8 : ¬ T (-8)) : ∀ (i : Nat) (L : List Int) (u v : Int), S.H i = some (L, u, v) → o i = -7 ∧ ∃ lp ln lc, Blk w' i [.slice lp ln lc, I u, I v] 77 ∧ RdL w' lp ln L ∧ ∀ j, ob lp j → o j = -8 ∧ j < w'.heap.size := fun i L u v hH => by
  obtain ⟨e, lp, ln, lc, hB, hRd, hO⟩ := hR.hel i L u v hH
  exact ⟨e, lp, ln, lc, hB.keep hk fun hh => h7 (e ▸ hh), hRd.keep hk fun j hj hh => h8 ((hO j hj).1 ▸ hh), fun j hj => ⟨(hO j hj).1, Nat.lt_of_lt_of_le (hO j hj).2 hk.size⟩⟩
end
theorem vals_cut {nv : Nat} {A B : List Int} {l : Int} (hl : Wi nv l) (hnd : (A ++ l :: B).Nodup) (hc : Cons (A ++ l :: B)) : (vals nv (A ++ l :: B)).set l.natAbs (J8 0) = vals nv (A ++ B) := by
  obtain ⟨h0, h1, h2⟩ := hl
  have n1 : l ∉ A ++ B := by
    have := (List.perm_middle (a := l) (l₁ := A) (l₂ := B)).nodup_iff.1 hnd
    exact (List.nodup_cons.1 this).1
  have n2 : -l ∉ A ++ B := fun h => hc l (by simp) (by
    rcases List.mem_append.1 h with h | h
    · exact List.mem_append.2 (Or.inl h)
    · exact List.mem_append.2 (Or.inr (by simp [h])))
  apply List.ext_getElem?
  intro i
  by_cases hi : i ≤ nv
  · rw [vals_at hi, List.getElem?_set, vals_len]
    have mem : ∀ k : Int, k ∈ A ++ l :: B ↔ k ∈ A ++ B ∨ k = l := fun k => by simp only [List.mem_append, List.mem_cons]; exact ⟨fun h => by rcases h with h | h | h <;> simp [h], fun h => by rcases h with (h | h) | h <;> simp [h]⟩
    by_cases he : l.natAbs = i
    · rw [if_pos he, if_pos (by omega)]
      congr 2
      symm
      rw [lv_nil]
      rcases (by omega : (i : Int) = l ∨ (i : Int) = -l) with e | e <;> rw [e]
      · exact ⟨n1, n2⟩
      · exact ⟨n2, by rw [Int.neg_neg]; exact n1⟩
    · rw [if_neg he, vals_at hi]
      congr 2
      unfold lv
      have e1 : ((i : Int) ∈ A ++ l :: B) ↔ (i : Int) ∈ A ++ B := by rw [mem]; exact ⟨fun h => h.resolve_right (by omega), Or.inl⟩
      have e2 : (-(i : Int) ∈ A ++ l :: B) ↔ -(i : Int) ∈ A ++ B := by rw [mem]; exact ⟨fun h => h.resolve_right (by omega), Or.inl⟩
      simp only [e1, e2]
  · rw [List.getElem?_eq_none (by rw [List.length_set, vals_len]; omega), List.getElem?_eq_none (by rw [vals_len]; omega)]
theorem cut28 {ex : Nat → Prop} {w : World} {b : Nat} {o : Nat → Int} {h : Hs} {S : WS} (hR : Rp ex w b o h S) (hnv : S.nv ≤ 1048576) (hc : Cons S.tr) (hnd : S.tr.Nodup) (hw : ∀ l ∈ S.tr, Wi S.nv l) (hhd : S.hd ≤ 1048576) (htl : S.tr.length ≤ 1048576) {n : Nat} (hn : n ≤ S.tr.length) :
    Calls Try.prog 28 #[Pt b, I n] w fun e w' => e = .returned (.tuple #[]) ∧ Nx tPut ex w b o { S with tr := S.tr.take n, hd := min S.hd n } w' := by
  refine (V28_calls (some ⟨b, 0, none⟩) n w (fun v w' => v = .tuple #[] ∧ Nx tPut ex w b o { S with tr := S.tr.take n, hd := min S.hd n } w') ?_).mono fun e w' ⟨v, he, hv, hk⟩ => ⟨by rw [he, hv], hk⟩
  unfold V28
  have hvl := hR.va.len
  rw [vals_len] at hvl
  have hl := own_len hR.tr
  have htle := hR.tr.le
  simp only [add_mk, Nat.zero_add, Nat.add_zero, Int.toNat_natCast, Nat.sub_zero]
  refine nn_of (ldC_of (x := h.tt.1) (n := h.tt.2.1) (c := h.tt.2.2) (hR.self.cell 1) ⟨by omega, by omega, ?_⟩)
  refine lp_of (fun s W => ∃ i : Nat, s.1 = (i : Int) ∧ n + i ≤ S.tr.length ∧ Own W 67 1 h.vv.1 h.vv.2.1 h.vv.2.2 (vals S.nv (S.tr.take n ++ S.tr.drop (n + i))) ∧ Keep (fun j => o j = -1) w W) (fun s _ => (S.tr.length - n - s.1).toNat)
    ⟨0, rfl, by omega, by rw [Nat.add_zero, List.take_append_drop]; exact hR.va, Keep.refl _ _⟩ ?_
  rintro ⟨i', ⟨⟩⟩ W ⟨i, rfl, hi, hV, kW⟩
  simp only []
  have trW : Own W 3 1 h.tt.1 h.tt.2.1 h.tt.2.2 (S.tr.map I) := Rp.own (T := fun t => t = -1) hR.tr hR.trO kW (by decide)
  have selfW := Rp.selfK (T := fun t => t = -1) hR kW (by decide)
  refine pif_of (fun hlt => ?_) fun hge => ?_
  · have hlt : i < S.tr.length - n := by have : (i : Int) < ((h.tt.2.1 - n : Nat) : Int) := by simpa using hlt
                                         omega
    rw [wrap_nat i (by omega)]
    obtain ⟨l, hx⟩ := getE (show n + i < S.tr.length by omega)
    have hwl := hw l (List.mem_of_getElem? hx)
    have rdT : RdL W (slA h.tt.1 h.tt.2.2 n 1) (h.tt.2.1 - n) (S.tr.drop n) := Lits.RdL.drop (own_rdl trW) (by omega) htle.1
    refine rdT.ix (by omega) fun a x hx' ha => ldI_of ha ?_
    rw [List.getElem?_drop, hx] at hx'
    injection hx' with hx'
    subst hx'
    refine nn_of (ldC_of (x := h.vv.1) (n := h.vv.2.1) (c := h.vv.2.2) (selfW.drew.cell 0) ?_)
    refine cl_of ok45 (var45 (wi_fl hnv hwl)) fun e w2 ⟨he, k2⟩ => ⟨_, he, ?_⟩
    have dr : Keep None W W.drew := (Keep.refl _ _).drew
    have self2 := (selfW.keep0 dr).keep0 k2
    refine ⟨ldC_of (x := h.vv.1) (n := h.vv.2.1) (c := h.vv.2.2) (self2.cell 0) rfl, ?_⟩
    have hV2 := (hV.keep0 dr).keep0 k2
    have hwl' := hwl
    obtain ⟨h0, h1, h2⟩ := hwl'
    refine hV2.ix (by omega) (by omega) fun bb hb => ?_
    rw [Int.toNat_natCast, Nat.mul_one, add_mk, Nat.add_zero]
    have hV2' := hV2
    rw [hb] at hV2'
    refine hV2'.st (by omega) rfl fun w3 va3 k3 z3 => ?_
    refine ⟨⟨i + 1, rfl, by omega, ?_, (kW.trans (dr.trans k2 fun _ _ h => h) fun _ _ h => h.elim).trans k3 fun j hj hh => hR.vaO j ⟨_, hb, (show j = bb from hh).symm⟩⟩, by omega⟩
    have e1 : S.tr.drop (n + i) = l :: S.tr.drop (n + (i + 1)) := by
      obtain ⟨hlt', hxe⟩ := List.getElem?_eq_some_iff.1 hx
      rw [List.drop_eq_getElem_cons hlt', hxe]; rfl
    have hsub : (S.tr.take n ++ l :: S.tr.drop (n + (i + 1))).Sublist S.tr := by
      rw [← e1]
      have h3 : (S.tr.drop (n + i)).Sublist (S.tr.drop n) := by rw [← List.drop_drop]; exact List.drop_sublist _ _
      have := List.Sublist.append (List.Sublist.refl (S.tr.take n)) h3
      rwa [List.take_append_drop] at this
    rw [e1, vals_cut hwl (hsub.nodup hnd) (fun k hk hk' => hc k (hsub.subset hk) (hsub.subset hk')), ← hb] at va3
    exact va3
  · have hge : n + i = S.tr.length := by have : ¬ (i : Int) < ((h.tt.2.1 - n : Nat) : Int) := by simpa using hge
                                         omega
    rw [hge, List.drop_length, List.append_nil] at hV
    refine nn_of (ldC_of (x := h.tt.1) (n := h.tt.2.1) (c := h.tt.2.2) (selfW.cell 1) ⟨by omega, by omega, nn_of ?_⟩)
    refine st_of selfW (by simp) rfl fun w4 self4 k4 z4 => ?_
    refine nn_of (ldI_of (self4.cell 3) (nn_of ?_))
    refine st_of self4 (by simp) rfl fun w5 self5 k5 z5 => ⟨by first | rfl | trivial, ?_⟩
    have one6 : ∀ {i : Nat}, One b i → o i = -6 := fun {i} hi => by have : i = b := hi; rw [this]; exact hR.selfO
    have k45 : Keep (fun j => o j = -6) W w5 := (k4.mono fun j _ hh => one6 hh).trans k5 fun j _ hh => one6 hh
    have kk : Keep (fun j => (fun t : Int => t = -1 ∨ t = -6) (o j)) w w5 := (kW.mono fun j _ hh => Or.inl hh).trans k45 fun j _ hh => Or.inr hh
    have emin : (if (n : Int) < (S.hd : Int) then (n : Int) else (S.hd : Int)) = ((min S.hd n : Nat) : Int) := by
      split <;> omega
    rw [emin] at self5
    have trC : Own W 3 1 h.tt.1 n h.tt.2.2 ((S.tr.take n).map I) := by
      have := trW.cut (m := n) (by omega)
      rw [Nat.mul_one, ← List.map_take] at this
      exact this
    have esl : slA h.tt.1 h.tt.2.2 0 1 = h.tt.1 := Lits.slA_zero _ _ _
    rw [esl] at self5
    refine ⟨o, { h with tt := (h.tt.1, n, h.tt.2.2) }, ⟨self5, hR.selfO, Rp.own (T := fun t => t = -6) hV hR.vaO k45 (by decide), hR.vaO, Rp.own (T := fun t => t = -6) trC hR.trO k45 (by decide), hR.trO,
      Rp.own (T := fun t => t = -1 ∨ t = -6) hR.st hR.stO kk (by decide), hR.stO, Rp.own (T := fun t => t = -1 ∨ t = -6) hR.out hR.outO kk (by decide), hR.outO, hR.hl, hR.ll, Rp.innK (S := S) (h := h) (T := fun t => t = -1 ∨ t = -6) hR kk (fun t ht hh => by omega), Rp.innOK (S := S) (h := h) hR kk,
      Rp.own (T := fun t => t = -1 ∨ t = -6) hR.lo hR.loO kk (by decide), hR.loO, Rp.helK (S := S) (T := fun t => t = -1 ∨ t = -6) hR kk (by decide) (by decide)⟩, Ag.refl _ _, kk.mono fun j _ hh => by rcases hh with hh | hh <;> simp [tPut, hh]⟩
end Go.Proofs.Ytjpblaenebodlaa.Wt
