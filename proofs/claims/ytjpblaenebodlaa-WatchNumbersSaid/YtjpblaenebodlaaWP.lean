/- Watch: hold. -/
import Derived.Test.YtjpblaenebodlaaWO
set_option linter.unusedVariables false
set_option linter.unusedSimpArgs false
set_option linter.unusedSectionVars false
set_option maxRecDepth 100000
namespace Go.Proofs.Ytjpblaenebodlaa.Wt
open Go Go.Proofs.Ytjpblaenebodlaa.Vc Go.Proofs.Ytjpblaenebodlaa.T
open Go.Proofs.Ytjpblaenebodlaa.Apart (RdL own_rdl wrap_nat getE own_len copy same take_snoc Sl sv New)
open Go.Proofs.Ytjpblaenebodlaa.Lits (fl fl_iff idx idx_inj idx_range Ans ans_of indexP formedP tidyP Td Srt)

/-- what a clause more leaves as it was -/
structure Fh (S S' : WS) : Prop where
  nv : S'.nv = S.nv
  tr : S'.tr = S.tr
  st : S'.st = S.st
  hd : S'.hd = S.hd
  rest : S'.rest = S.rest
  clash : S'.clash = S.clash
theorem Fh.refl (S : WS) : Fh S S := ⟨rfl, rfl, rfl, rfl, rfl, rfl⟩
theorem upd_twice (H : Nat → Option (List Int × Int × Int)) (hb : Nat) (x y : List Int × Int × Int) : upd (upd H hb x) hb y = upd H hb y := by
  funext j
  unfold upd
  by_cases hj : j = hb
  · rw [if_pos hj, if_pos hj]
  · rw [if_neg hj, if_neg hj, if_neg hj]
theorem srt_len {L : List Int} (hs : Srt L) (hf : ∀ x ∈ L, fl x = true) : L.length ≤ 2097153 ∧ L.Nodup := by
  have h1 : (L.map fun x => (idx x).toNat).Nodup := by
    rw [List.Nodup, List.pairwise_map]
    refine (List.Pairwise.and_mem.1 hs).imp ?_
    rintro a b ⟨ha, hb, hlt⟩
    have := (idx_range (hf a ha)).1
    omega
  have := nodup_le (dom := List.range 2097153) h1 fun x hx => by
    obtain ⟨y, hy, rfl⟩ := List.mem_map.1 hx
    have := idx_range (hf y hy)
    exact List.mem_range.2 (by omega)
  exact ⟨by simpa using this, hs.imp fun h e => by rw [e] at h; omega⟩
theorem hold24 {C : List (List Int)} {w : World} {b : Nat} {o : Nat → Int} {h : Hs} {S : WS} (hR : Rp noEx w b o h S) {hd0 sz0 : Nat} (hI : Iv C S hd0 sz0 fun _ _ => False) {p : Option Addr} {n c : Nat} {cs : List Int} (hRd : RdL w p n cs) (hn : n ≤ 17592186044416) (hw : ∀ x ∈ cs, Wi S.nv x) (hC : C.length + 1 ≤ cap) :
    Calls Try.prog 24 #[Pt b, .slice p n c] w fun e w' => e = .returned (.tuple #[]) ∧ ∃ S' : WS, Nx tMine noEx w b o S' w' ∧ Iv (C ++ [cs]) S' hd0 sz0 (fun _ _ => False) ∧ Fh S S' := by
  refine (V24_calls (some ⟨b, 0, none⟩) p n c w (fun v w' => v = .tuple #[] ∧ ∃ S' : WS, Nx tMine noEx w b o S' w' ∧ Iv (C ++ [cs]) S' hd0 sz0 (fun _ _ => False) ∧ Fh S S') ?_).mono fun e w' ⟨v, he, hv, hk⟩ => ⟨by rw [he, hv], hk⟩
  unfold V24
  have hnv := hI.wf.nvb
  have hf : ∀ x ∈ cs, fl x = true := fun x hx => wi_fl hnv (hw x hx)
  refine cl_of ok42 (taut42 hRd hn hf) fun e w1 ⟨r, he, hr, k1⟩ => ⟨r, he, ?_⟩
  refine pif_of (fun ht => ⟨rfl, S, Nx.same hR k1, hI.tautC (hr.1 ht) hC, Fh.refl S⟩) fun ht => ?_
  refine cl_of ok40 (tidyP (hRd.keep0 k1) hn) fun e w2 ⟨v, L, he, hT, g, gc, hv, hO, hg, k2⟩ => ⟨_, _, _, he.trans (congrArg Ending.returned hv), ?_⟩
  have hm : ∀ x, x ∈ L ↔ x ∈ cs := fun x => ⟨fun h => ((hT.mem x).1 h).1, fun h => (hT.mem x).2 ⟨h, hf x h⟩⟩
  have hLw : ∀ x ∈ L, Wi S.nv x := fun x hx => hw x ((hm x).1 hx)
  obtain ⟨hLl, hLn⟩ := srt_len hT.srt fun x hx => ((hT.mem x).1 hx).2
  refine alc_at fun hb w3 hhb hB k3 => ?_
  have z1 := k1.size
  have z2 := k2.size
  have z3 := k3.size
  have k13 : Keep None w w3 := (k1.then0 k2).then0 k3
  let o1 : Nat → Int := fun i => if i < w.heap.size then o i else if i < w2.heap.size then -8 else -7
  have ha1 : Ag w o o1 := fun i hi => if_pos hi
  have hob : o1 hb = -7 := by show (if _ then _ else _) = _; rw [if_neg (by omega), if_neg (by omega)]
  have hO3 := hO.keep0 k3
  have hgo : ∀ j, ob g j → o1 j = -8 ∧ j < w3.heap.size := fun j hj => by
    have h1 := hg j hj
    have h2 := hO.lt j hj
    exact ⟨by show (if _ then _ else _) = _; rw [if_neg (by omega), if_pos h2], by omega⟩
  have hR3 := ((hR.reown ha1).keep0 k13).addH (L := L) hob hB (own_rdl hO3) hgo
  have hHn : S.H hb = none := by
    cases hq : S.H hb with
    | none => rfl
    | some x =>
      obtain ⟨L', u', v'⟩ := x
      obtain ⟨_, _, _, _, hB', _⟩ := hR.hel hb L' u' v' hq
      have := hB'.lt
      omega
  have hIm := hI.more (c := cs) hHn hLw hLn hLl hm hC
  refine cl_of ok14 (depth14 hR3) fun e w4 ⟨he4, k4⟩ => ⟨_, he4, ?_⟩
  have hR4 := hR3.keep0 k4
  have k14 := k13.then0 k4
  have hHb : upd S.H hb (L, 0, 0) hb = some (L, 0, 0) := if_pos rfl
  have hnin : ∀ i, ¬ hIn S.ls i hb := fun i hi => by
    obtain ⟨L', u', v', q, _⟩ := hI.w1 i hb hi
    rw [hHn] at q; cases q
  have hnlo : hb ∉ S.lo := fun hh => by
    obtain ⟨L', u', v', q⟩ := hI.wf.lol.2 hb hh
    rw [hHn] at q; cases q
  -- loose
  have loose : ∀ {W : World}, Keep None w4 W → ∀ {R : World → Prop}, (∀ w', (∃ S' : WS, Nx tMine noEx w b o S' w' ∧ Iv (C ++ [cs]) S' hd0 sz0 (fun _ _ => False) ∧ Fh S S') → R w') →
      nn (some ⟨b, 0, none⟩) fun p16 => ldC W (p16.add 5) fun x17 x17n x17c => alc W [.pointer (some (⟨hb, 0, none⟩ : Addr))] 74 fun b18 w7 =>
      ∃ (x19 : Option Addr) (x19n x19c : Nat), ∃ w8 : World, (Builtin.append_ #[62, 62] 62 #[.slice x17 x17n x17c, .slice (some (⟨b18, 0, none⟩ : Addr)) 1 1]).run Try.prog w7 = .ok (.slice x19 x19n x19c) w8 ∧
      nn (some ⟨b, 0, none⟩) fun p20 => Vc.st w8 ((p20.add 5).add 0) (.slice x19 x19n x19c) fun w9 => R w9 := fun {W} kW {R} hK => by
    have hRW := hR4.keep0 kW
    refine nn_of (ldC_of (x := h.ll.1) (n := h.ll.2.1) (c := h.ll.2.2) (by rw [add_mk]; exact hRW.self.cell 5) ?_)
    refine alc_at fun b18 w7 h18 hB7 k7 => ?_
    have hR7 := hRW.keep0 k7
    refine pushLo hR7 (by have := hI.wf.lol.1; show S.lo.length ≤ _; omega) hB7 fun w9 ⟨o9, h9, hR9, ha9, k9⟩ => hK w9 ⟨_, ⟨o9, h9, hR9, ?_, ?_⟩, hIm, rfl, rfl, rfl, rfl, rfl, rfl⟩
    · have z9 := ((k14.then0 kW).then0 k7).size
      exact ha1.trans ha9 z9
    · refine (((k14.then0 kW).then0 k7).none (S := fun i => tMine (o i))).trans k9 fun j hj hh => ?_
      have hh' : tLo (o1 j) := hh
      rw [ha1 j hj] at hh'
      show o j ≠ -9
      unfold tLo at hh'; omega
  refine gd_of (fun hd => ?_) fun hd => ?_
  · refine cl_of ok43 (attach43 hR4 hI.wf.cons hnv hHb hLw hLl fun i ids hi => (hI.wf.lsl i ids hi).1) fun e w5 ⟨v5, he5, hA⟩ => ?_
    have hd' : decide (((S.st.length : Nat) : Int) > 0) = false := by simpa using hd
    rcases hA with ⟨_, rfl, k5⟩ | ⟨x, y, r, hnf, rfl, o5, h5, hR5, ha5, k5⟩
    · refine ⟨false, he5, pif_t (by rw [hd']; rfl) ?_⟩
      exact loose k5 fun w' hw' => ⟨rfl, hw'⟩
    · refine ⟨true, he5, pif_f (by rw [hd']; rfl) ⟨rfl, _, ⟨o5, h5, hR5, ha1.trans ha5 k14.size, ?_⟩, ?_, rfl, rfl, rfl, rfl, rfl, rfl⟩⟩
      · refine (k14.none (S := fun i => tMine (o i))).trans k5 fun j hj hh => ?_
        have hh' : tAtt (o1 j) := hh
        rw [ha1 j hj] at hh'
        show o j ≠ -9
        unfold tAtt at hh'; omega
      · have hnf' : nf S.tr L = x :: y :: r := hnf
        have hxm : x ∈ nf S.tr L := by rw [hnf']; simp
        have hym : y ∈ nf S.tr L := by rw [hnf']; simp
        have hnn2 : (nf S.tr L).Nodup := List.Nodup.sublist List.filter_sublist hLn
        have hne : x ≠ y := fun e => by
          rw [hnf', e] at hnn2
          exact (List.nodup_cons.1 hnn2).1 (by simp)
        obtain ⟨x1, x2⟩ := List.mem_filter.1 hxm
        obtain ⟨y1, y2⟩ := List.mem_filter.1 hym
        exact hIm.att (lo' := S.lo) hHb x1 y1 hne (by simpa using x2) (by simpa using y2) hnin hR.ll hI.lop.1 (fun z hz => List.mem_append_left _ hz) (fun z hz => by
          rcases List.mem_append.1 hz with hz | hz
          · exact Or.inr hz
          · exact Or.inl (List.mem_singleton.1 hz)) hnlo
  · have hd' : decide (((S.st.length : Nat) : Int) > 0) = true := by simpa using hd
    refine pif_t (by rw [hd']; rfl) ?_
    exact loose (Keep.refl _ _) fun w' hw' => ⟨rfl, hw'⟩
end Go.Proofs.Ytjpblaenebodlaa.Wt
