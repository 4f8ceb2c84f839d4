/- WatchPlays: a Watch and the document's, side by side. -/
import Derived.Test.YtjpblaenebodlaaMWDf
set_option linter.unusedVariables false
set_option linter.unusedSimpArgs false
set_option linter.unusedSectionVars false
set_option maxRecDepth 100000
namespace Go.Proofs.Ytjpblaenebodlaa.Wt
open Go Go.Proofs.Ytjpblaenebodlaa.Vc Go.Proofs.Ytjpblaenebodlaa.T
open Go.Proofs.Ytjpblaenebodlaa.Apart (RdL own_rdl wrap_nat getE own_len copy same take_snoc Sl sv New LL Gro)
open Go.Proofs.Ytjpblaenebodlaa.Lits (fl fl_iff idx idx_inj idx_range Ans ans_of indexP formedP tidyP Td Srt tidyR)

/-- both know the same -/
structure Rel (C lvs : List (List Int)) (S : WS) : Prop where
  len : lvs.length = S.st.length + 1
  all : ∀ x, x ∈ S.tr ↔ x ∈ lvs.flatten
  lev : ∀ (d s : Nat), S.st[d]? = some s → ∀ x, x ∈ S.tr.take s ↔ x ∈ (lvs.take (d + 1)).flatten
structure Pr (N : Nat) (W : World) (b m : Nat) (M1 M2 : Nat → Prop) (C lvs : List (List Int)) (S : WS) : Prop where
  wa : Wa M1 W b C S
  dm : Dm M2 W m C lvs S.rest S.clash S.nv
  dis : ∀ i, M1 i → ¬ M2 i
  rel : Rel C lvs S
  cn : C.length ≤ N
def PP (M : Nat → Prop) (N : Nat) (W : World) (bp : Nat) : Prop :=
  ∃ b m M1 M2 C lvs S, Blk W bp [Pt b, Pt m] 46 ∧ Pr N W b m M1 M2 C lvs S ∧ (∀ i, M i ↔ (M1 i ∨ M2 i)) ∧ ¬ M bp
section
variable {M M' M1 M2 M1' M2' : Nat → Prop} {N N' : Nat} {W W' W2 W3 W4 : World} {bp b m : Nat} {C C' lvs lvs' : List (List Int)} {S S' : WS}
theorem Pr.keep {U : Nat → Prop} (h : Pr N W b m M1 M2 C lvs S) (hk : Keep U W W') (hU : ∀ i, U i → ¬ M1 i ∧ ¬ M2 i) : Pr N W' b m M1 M2 C lvs S :=
  ⟨h.wa.keep hk fun i hi => (hU i hi).1, h.dm.keep hk fun i hi => (hU i hi).2, h.dis, h.rel, h.cn⟩
theorem PP.keep {U : Nat → Prop} (h : PP M N W bp) (hk : Keep U W W') (hU : ∀ i, U i → ¬ M i ∧ i ≠ bp) (hN : N ≤ N') : PP M N' W' bp := by
  obtain ⟨b, m, M1, M2, C, lvs, S, hB, hP, hM, hb⟩ := h
  have hP' := hP.keep hk fun i hi => ⟨fun h1 => (hU i hi).1 ((hM i).2 (Or.inl h1)), fun h2 => (hU i hi).1 ((hM i).2 (Or.inr h2))⟩
  exact ⟨b, m, M1, M2, C, lvs, S, hB.keep hk fun hh => (hU bp hh).2 rfl, ⟨hP'.wa, hP'.dm, hP'.dis, hP'.rel, Nat.le_trans hP'.cn hN⟩, hM, hb⟩
theorem PP.keep0 (h : PP M N W bp) (hk : Keep None W W') (hN : N ≤ N') : PP M N' W' bp := h.keep hk (fun _ h => h.elim) hN
theorem PP.lt (h : PP M N W bp) : ∀ i, M i → i < W.heap.size := by
  obtain ⟨b, m, M1, M2, C, lvs, S, hB, hP, hM, hb⟩ := h
  intro i hi
  rcases (hM i).1 hi with h1 | h1
  · exact hP.wa.lt i h1
  · exact hP.dm.lt i h1
/-- what a step leaves of a pair -/
def Stp (M : Nat → Prop) (W : World) (N' bp : Nat) (W' : World) : Prop := ∃ M', PP M' N' W' bp ∧ Grow M W M' ∧ Keep M W W'
theorem Stp.same (h : PP M N W bp) (hk : Keep None W W') (hN : N ≤ N') : Stp M W N' bp W' := ⟨M, h.keep0 hk hN, fun i hi => Or.inl hi, hk.none⟩
theorem Stp.pre0 {W0 : World} (h : Stp M W N' bp W') (hk : Keep None W0 W) : Stp M W0 N' bp W' := by
  obtain ⟨M', h1, h2, h3⟩ := h
  exact ⟨M', h1, fun i hi => (h2 i hi).imp id fun h => Nat.le_trans hk.size h, (hk.none (S := M)).trans h3 fun _ _ h => h⟩
theorem Stp.post0 {W1 : World} (h : Stp M W N' bp W') (hk : Keep None W' W1) : Stp M W N' bp W1 := by
  obtain ⟨M', h1, h2, h3⟩ := h
  exact ⟨M', h1.keep0 hk (Nat.le_refl _), h2, h3.then0 hk⟩
/-- both have moved -/
theorem stp_of (hB : Blk W bp [Pt b, Pt m] 46) (hP : Pr N W b m M1 M2 C lvs S) (hM : ∀ i, M i ↔ (M1 i ∨ M2 i)) (hb : ¬ M bp)
    (hA : After M1 W b C' S' M1' W2) (k23 : Keep None W2 W3) (hD : AfD M2 W3 m C' lvs' S'.rest S'.clash S'.nv M2' W4) (hr : Rel C' lvs' S') (hN : C'.length ≤ N') : Stp M W N' bp W4 := by
  have hbl := hB.lt
  have h12 : ∀ i, M1' i → ¬ M2 i := fun i hi hh => by
    rcases hA.gr i hi with h | h
    · exact hP.dis i h hh
    · have := hP.dm.lt i hh; omega
  have h12' : ∀ i, M1' i → ¬ M2' i := fun i hi hh => by
    rcases hD.gr i hh with h | h
    · exact h12 i hi h
    · have := hA.wa.lt i hi; have := k23.size; omega
  have e1 := hA.kp.size; have e2 := k23.size; have e3 := hD.kp.size
  have gr : ∀ i, (M1' i ∨ M2' i) → M i ∨ W.heap.size ≤ i := fun i hi => by
    rcases hi with hi | hi
    · exact (hA.gr i hi).imp (fun h => (hM i).2 (Or.inl h)) id
    · exact (hD.gr i hi).imp (fun h => (hM i).2 (Or.inr h)) fun h => by omega
  have kk : Keep M W W4 := ((hA.kp.mono fun i _ h => (hM i).2 (Or.inl h)).then0 k23).trans hD.kp fun i _ h => (hM i).2 (Or.inr h)
  refine ⟨fun i => M1' i ∨ M2' i, ⟨b, m, M1', M2', C', lvs', S', hB.keep kk hb, ⟨(hA.wa.keep0 k23).keep hD.kp fun i hi hh => h12 i hh hi, hD.dm, h12', hr, hN⟩, fun i => Iff.rfl, fun hh => ?_⟩, gr, kk⟩
  rcases gr bp hh with h | h
  · exact hb h
  · omega
end
/-- one call on both: the same answer -/
theorem plays18 {M : Nat → Prop} {N : Nat} {W : World} {bp : Nat} (hPP : PP M N W bp) (hN : N + 1 ≤ cap) {kd on lit : Int} {q : Option Addr} {k c : Nat} {ls : List Int} (hR : RdL W q k ls) (hk : k ≤ 17592186044416) (hq : ∀ j, ob q j → 0 < k → ¬ M j) :
    Calls Try.prog 18 #[.pointer (some ⟨bp, 0, none⟩), .agg #[I kd, I on, I lit, .slice q k c]] W fun e W' => e = .returned (.bool true) ∧ Stp M W (N + 1) bp W' := by
  refine (V18_calls (some ⟨bp, 0, none⟩) kd on lit q k c W (fun v W' => v = .bool true ∧ Stp M W (N + 1) bp W') ?_).mono fun e W' ⟨v, he, hv, hk⟩ => ⟨by rw [he, hv], hk⟩
  unfold V18
  have hcap : cap = 8796093022208 := rfl
  refine alc_at fun b2 W1 hb2 hB2 k1 => ?_
  have hPP1 := hPP.keep0 k1 (Nat.le_refl _)
  obtain ⟨b, m, M1, M2, C, lvs, S, hB, hP, hM, hb⟩ := hPP1
  have hwa := hP.wa; have hdm := hP.dm; have hrel := hP.rel; have hcn := hP.cn
  have hB' : Blk W1 bp [Pt b, Pt m] 46 := hB
  have hPPd : ∀ {W2 : World}, Keep None W1 W2 → Stp M W (N + 1) bp W2 := fun kk => Stp.same hPP (k1.then0 kk) (by omega)
  have b2M : ∀ i, M i → i ≠ b2 := fun i hi e => by have := hPP.lt i hi; omega
  have dA : ∀ {C' : List (List Int)} {S' : WS} {M1' : Nat → Prop} {W2 : World}, After M1 W1 b C' S' M1' W2 → Dm M2 W2 m C lvs S.rest S.clash S.nv ∧ Blk W2 bp [Pt b, Pt m] 46 := fun {C'} {S'} {M1'} {W2} hA =>
    ⟨hdm.keep hA.kp fun i hi => hP.dis i hi, hB'.keep hA.kp fun hh => hb ((hM bp).2 (Or.inl hh))⟩
  refine ldI_of (x := kd) (by rw [add_mk]; exact hB2.cell 0) ?_
  refine pif_of (fun h1 => ?_) fun h1 => ?_
  · refine nn_of (ldP_of (x := some ⟨b, 0, none⟩) (by rw [add_mk]; exact hB'.drew.cell 0) ?_)
    refine ldC_of (x := q) (n := k) (c := c) (by rw [add_mk]; exact hB2.drew.cell 3) ?_
    have kd1 : Keep None W1 W1.drew := (Keep.refl _ _).drew
    refine cl_of ok13 (copy ((hR.keep0 k1).keep0 kd1) hk) fun e W2 ⟨v2, he, p2, c2, hv2, hO2, hf2, k2⟩ => ⟨p2, ls.length, c2, by rw [he, hv2], ?_⟩
    have k12 : Keep None W1 W2 := kd1.then0 k2
    refine ⟨ldP_of (x := some ⟨b, 0, none⟩) (by rw [add_mk]; exact (hB'.keep0 k12).cell 0) rfl, ?_⟩
    have hll := hR.len
    refine cl_of ok12 (wa_add (hwa.keep0 k12) (own_rdl hO2) (by omega) (by omega)) fun e W3 hadd => ?_
    rcases hadd with ⟨he, hn, k3⟩ | ⟨he, hw, M1', S', hA0, e1, e2, e3, e4, e5⟩
    · refine ⟨1, he, ?_⟩
      have k13 : Keep None W1 W3 := k12.then0 k3
      refine nn_of (ldP_of (x := some ⟨m, 0, none⟩) (by rw [add_mk]; exact (hB'.keep0 k13).drew.cell 1) ?_)
      refine ldC_of (x := q) (n := k) (c := c) (by rw [add_mk]; exact (hB2.keep0 k13).drew.cell 3) ?_
      refine cl_of ok33 (add33 (hdm.keep0 k13.drew) ((hR.keep0 k1).keep0 k13.drew) hk (by omega)) fun e W4 hadd => ?_
      rcases hadd with ⟨he, _, k4⟩ | ⟨_, hw, _⟩
      · exact ⟨1, he, rfl, hPPd (k13.drew.then0 k4)⟩
      · exact absurd hw hn
    · refine ⟨0, he, ?_⟩
      have hA : After M1 W1 b (C ++ [ls]) S' M1' W3 := hA0.pre0 k12
      obtain ⟨hD3, hB3⟩ := dA hA
      have hRW : RdL W3 q k ls := rdl_keep (hR.keep0 k1) hA.kp fun j hj h0 hh => hq j hj h0 ((hM j).2 (Or.inl hh))
      have hB23 := hB2.keep hA.kp fun hh => b2M b2 ((hM b2).2 (Or.inl hh)) rfl
      have kd3 : Keep None W3 W3.drew := (Keep.refl _ _).drew
      refine nn_of (ldP_of (x := some ⟨m, 0, none⟩) (by rw [add_mk]; exact hB3.drew.cell 1) ?_)
      refine ldC_of (x := q) (n := k) (c := c) (by rw [add_mk]; exact hB23.drew.cell 3) ?_
      refine cl_of ok33 (add33 (hD3.keep0 kd3) (hRW.keep0 kd3) hk (by omega)) fun e W4 hadd => ?_
      rcases hadd with ⟨_, hn, _⟩ | ⟨he, _, M2', hD4⟩
      · exact absurd hw hn
      · refine ⟨0, he, rfl, (stp_of hB' hP hM hb hA kd3 (lvs' := lvs) (M2' := M2') ?_ ⟨?_, ?_, ?_⟩ ?_).pre0 k1⟩
        · rw [e4, e5, e1]; exact hD4
        · rw [e3]; exact hrel.len
        · rw [e2]; exact hrel.all
        · rw [e2, e3]; exact hrel.lev
        · rw [List.length_append, List.length_singleton]; omega
  refine pif_of (fun h2 => ?_) fun h2 => ?_
  · refine nn_of (ldP_of (x := some ⟨b, 0, none⟩) (by rw [add_mk]; exact hB'.drew.cell 0) ?_)
    have kd1 : Keep None W1 W1.drew := (Keep.refl _ _).drew
    refine ldI_of (x := lit) (by rw [add_mk]; exact hB2.drew.cell 2) ?_
    refine cl_of ok8 (wa_assume (hwa.keep0 kd1) lit) fun e W2 ⟨v2, he, hA⟩ => ⟨v2, he, ?_⟩
    have both : ∀ {v : Int}, v2 = v → Keep None W1.drew W2 → (∀ {v' : Int} {W4 : World}, Dsm M2 W2.drew m C lvs S.rest S.clash S.nv lit v' W4 → v' = v ∧ Keep None W2.drew W4) →
        nn (some ⟨bp, 0, none⟩) fun p25 => ldP W2.drew (p25.add 1) fun x26 => ldI .i64 W2.drew ((⟨b2, 0, none⟩ : Addr).add 2) fun x27 => cl Try.prog 34 [.pointer x26, .int .i64 x27] W2.drew fun e29 w6 => ∃ x28 : Int, e29 = Ending.returned (.int .i64 x28) ∧ ((Value.bool (v2 == x28) : Value) = .bool true ∧ Stp M W (N + 1) bp w6) := fun {v} hv k2 hall => by
      have k12 : Keep None W1 W2 := kd1.then0 k2
      refine nn_of (ldP_of (x := some ⟨m, 0, none⟩) (by rw [add_mk]; exact (hB'.keep0 k12).drew.cell 1) ?_)
      refine ldI_of (x := lit) (by rw [add_mk]; exact (hB2.keep0 k12).drew.cell 2) ?_
      refine cl_of ok34 (assume34 (hdm.keep0 k12.drew) lit) fun e W4 ⟨v4, he, hD⟩ => ⟨v4, he, ?_⟩
      obtain ⟨rfl, k4⟩ := hall hD
      subst hv
      exact ⟨by simp, hPPd (k12.drew.then0 k4)⟩
    rcases hA with ⟨rfl, hn, k2⟩ | ⟨rfl, hw, hr, k2⟩ | ⟨rfl, hw, hr, hm, k2⟩ | ⟨rfl, hw, hr, hnm, M1', hA0⟩
    · refine both rfl k2 fun {v'} {W4} hD => ?_
      rcases hD with ⟨rfl, _, k4⟩ | ⟨_, h, _⟩ | ⟨_, h, _⟩ | ⟨_, h, _⟩
      · exact ⟨rfl, k4⟩
      · exact absurd h hn
      · exact absurd h hn
      · exact absurd h hn
    · refine both rfl k2 fun {v'} {W4} hD => ?_
      rcases hD with ⟨_, h, _⟩ | ⟨rfl, _, _, k4⟩ | ⟨_, _, h, _⟩ | ⟨_, _, h, _⟩
      · exact absurd hw h
      · exact ⟨rfl, k4⟩
      · rw [hr] at h; cases h
      · rw [hr] at h; cases h
    · refine both rfl k2 fun {v'} {W4} hD => ?_
      rcases hD with ⟨_, h, _⟩ | ⟨_, _, h, _⟩ | ⟨rfl, _, _, _, k4⟩ | ⟨_, _, _, h, _⟩
      · exact absurd hw h
      · rw [hr] at h; cases h
      · exact ⟨rfl, k4⟩
      · rcases hm with hm | hm
        · exact absurd ((hrel.all _).1 hm) h.1
        · exact absurd ((hrel.all _).1 hm) h.2
    · have hA := hA0.pre0 kd1
      obtain ⟨hD3, hB3⟩ := dA hA
      have hB23 := hB2.keep hA.kp fun hh => b2M b2 ((hM b2).2 (Or.inl hh)) rfl
      have kd3 : Keep None W2 W2.drew := (Keep.refl _ _).drew
      refine nn_of (ldP_of (x := some ⟨m, 0, none⟩) (by rw [add_mk]; exact hB3.drew.cell 1) ?_)
      refine ldI_of (x := lit) (by rw [add_mk]; exact hB23.drew.cell 2) ?_
      refine cl_of ok34 (assume34 (hD3.keep0 kd3) lit) fun e W4 ⟨v4, he, hD⟩ => ⟨v4, he, ?_⟩
      rcases hD with ⟨_, h, _⟩ | ⟨_, _, h, _⟩ | ⟨_, _, _, h, _⟩ | ⟨rfl, _, _, _, M2', hD4⟩
      · exact absurd hw h
      · rw [hr] at h; cases h
      · rcases h with h | h
        · exact absurd ((hrel.all _).2 h) hnm.1
        · exact absurd ((hrel.all _).2 h) hnm.2
      · refine ⟨rfl, (stp_of hB' hP hM hb hA kd3 (lvs' := lvs ++ [[lit]]) (M2' := M2') hD4 ⟨?_, fun x => ?_, fun d s hd x => ?_⟩ (by omega)).pre0 k1⟩
        · show (lvs ++ [[lit]]).length = (S.st ++ [S.tr.length]).length + 1
          have := hrel.len
          simp only [List.length_append, List.length_singleton]; omega
        · show x ∈ S.tr ++ [lit] ↔ _
          rw [List.flatten_append, List.mem_append, List.mem_append, hrel.all]; simp
        · have hd : (S.st ++ [S.tr.length])[d]? = some s := hd
          show x ∈ (S.tr ++ [lit]).take s ↔ _
          have hlen := hrel.len
          rcases Nat.lt_trichotomy d S.st.length with hlt | heq | hgt
          · rw [List.getElem?_append_left hlt] at hd
            have hs : s ≤ S.tr.length := by
              have := hwa.at_.iv.st0 s (List.mem_of_getElem? hd)
              have := hwa.at_.iv.hdl
              omega
            rw [List.take_append_of_le_length hs, List.take_append_of_le_length (by omega)]
            exact hrel.lev d s hd x
          · rw [heq, List.getElem?_append_right (Nat.le_refl _), Nat.sub_self] at hd
            injection hd with hd
            rw [← hd, List.take_left, heq, ← hlen, List.take_left]
            exact hrel.all x
          · rw [List.getElem?_eq_none (by simp; omega)] at hd; cases hd
  refine pif_of (fun h3 => ?_) fun h3 => ?_
  · refine nn_of (ldP_of (x := some ⟨b, 0, none⟩) (by rw [add_mk]; exact hB'.cell 0) ?_)
    refine cl_of ok10 (wa_run hwa) fun e W2 ⟨v, M1', S', he, hA, e1, e2, e3, e4, e5, e6, e7⟩ => ⟨v, he, ?_⟩
    obtain ⟨hD3, hB3⟩ := dA hA
    refine nn_of (ldP_of (x := some ⟨m, 0, none⟩) (by rw [add_mk]; exact hB3.cell 1) ?_)
    refine cl_of ok35 (run35 hD3 (by omega)) fun e W4 ⟨v', he, lvs', M2', hD, f1, f2, f3, f4, f5⟩ => ⟨v', he, ?_⟩
    have hcl : Clash C S.tr ↔ Clash C lvs.flatten := ⟨fun h => h.cut fun y hy => Der.fact ((hrel.all y).1 hy), fun h => h.cut fun y hy => Der.fact ((hrel.all y).2 hy)⟩
    have hvv : v' = v := by
      cases v with
      | true => exact f3.2 fun h => (e5.1 rfl) (hcl.2 h)
      | false =>
        cases v' with
        | false => rfl
        | true => have := e5.2 fun h => (f3.1 rfl) (hcl.1 h); cases this
    subst hvv
    refine ⟨by simp, (stp_of hB' hP hM hb hA (Keep.refl _ _) (lvs' := lvs') (M2' := M2') ?_ ⟨?_, fun x => ?_, fun d s hd x => ?_⟩ (by omega)).pre0 k1⟩
    · rw [e3, e4, e1]; exact hD
    · rw [f1, e2]; exact hrel.len
    · cases v' with
      | true =>
        rw [(e6 rfl).2 x, f4 rfl x]
        exact ⟨fun h => h.cut fun y hy => Der.fact ((hrel.all y).1 hy), fun h => h.cut fun y hy => Der.fact ((hrel.all y).2 hy)⟩
      | false => rw [e7 rfl, f5 rfl]; exact hrel.all x
    · rw [e2] at hd
      have hs : s ≤ S.tr.length := by
        have := hwa.at_.iv.st0 s (List.mem_of_getElem? hd)
        have := hwa.at_.iv.hdl
        omega
      have hdl := (List.getElem?_eq_some_iff.1 hd).1
      have ht : S'.tr.take s = S.tr.take s := by
        cases v' with
        | true =>
          obtain ⟨t, ht⟩ := (e6 rfl).1
          rw [← ht, List.take_append_of_le_length hs]
        | false => rw [e7 rfl]
      have hl : lvs'.take (d + 1) = lvs.take (d + 1) := by
        have hlen := hrel.len
        have a1 : lvs'.dropLast.take (d + 1) = lvs'.take (d + 1) := by rw [List.dropLast_eq_take, List.take_take, Nat.min_eq_left (by omega)]
        have a2 : lvs.dropLast.take (d + 1) = lvs.take (d + 1) := by rw [List.dropLast_eq_take, List.take_take, Nat.min_eq_left (by omega)]
        rw [← a1, ← a2, f2]
      rw [ht, hl]
      exact hrel.lev d s hd x
  refine pif_of (fun h4 => ?_) fun h4 => ?_
  · refine nn_of (ldP_of (x := some ⟨b, 0, none⟩) (by rw [add_mk]; exact hB'.cell 0) ?_)
    have hlen := hrel.len
    refine cl_of ok9 (wa_undo hwa) fun e W2 hu => ?_
    rcases hu with ⟨he, hst, k2⟩ | ⟨he, st', s, M1', hst, hA⟩
    · refine ⟨3, he, ?_⟩
      refine nn_of (ldP_of (x := some ⟨m, 0, none⟩) (by rw [add_mk]; exact (hB'.keep0 k2).cell 1) ?_)
      refine cl_of ok36 (undo36 (hdm.keep0 k2)) fun e W4 hd => ?_
      rcases hd with ⟨he, _, k4⟩ | ⟨_, hn, _⟩
      · exact ⟨3, he, rfl, hPPd (k2.then0 k4)⟩
      · exact absurd (by rw [hlen, hst]; rfl) hn
    · refine ⟨0, he, ?_⟩
      obtain ⟨hD3, hB3⟩ := dA hA
      refine nn_of (ldP_of (x := some ⟨m, 0, none⟩) (by rw [add_mk]; exact hB3.cell 1) ?_)
      refine cl_of ok36 (undo36 hD3) fun e W4 hd => ?_
      rcases hd with ⟨_, hn, _⟩ | ⟨he, _, M2', hD⟩
      · rw [hlen, hst] at hn; simp at hn
      · have hsl : S.st.length = st'.length + 1 := by rw [hst]; simp
        have hsd : S.st[st'.length]? = some s := by rw [hst, List.getElem?_append_right (Nat.le_refl _), Nat.sub_self]; rfl
        have hs : s ≤ S.tr.length := by
          have := hwa.at_.iv.st0 s (List.mem_of_getElem? hsd)
          have := hwa.at_.iv.hdl
          omega
        have hdl : lvs.dropLast = lvs.take (st'.length + 1) := by rw [List.dropLast_eq_take, hlen, hsl]; rfl
        refine ⟨0, he, rfl, (stp_of hB' hP hM hb hA (Keep.refl _ _) (lvs' := lvs.dropLast) (M2' := M2') hD ⟨?_, fun x => ?_, fun d s' hd x => ?_⟩ (by omega)).pre0 k1⟩
        · show lvs.dropLast.length = st'.length + 1
          rw [List.length_dropLast]; omega
        · show x ∈ S.tr.take s ↔ _
          rw [hdl]
          exact hrel.lev _ s hsd x
        · have hd : st'[d]? = some s' := hd
          have hdlt := (List.getElem?_eq_some_iff.1 hd).1
          have hd' : S.st[d]? = some s' := by rw [hst, List.getElem?_append_left hdlt]; exact hd
          show x ∈ (S.tr.take s).take s' ↔ _
          have hss : s' ≤ s := by
            have hp := hwa.at_.st1
            rw [hst] at hp
            exact (List.pairwise_append.1 hp).2.2 s' (List.mem_of_getElem? hd) s (by simp)
          rw [List.take_take, Nat.min_eq_left hss, hdl, List.take_take, Nat.min_eq_left (by omega)]
          exact hrel.lev d s' hd' x
  refine pif_of (fun h5 => ?_) fun h5 => ?_
  · refine nn_of (ldP_of (x := some ⟨b, 0, none⟩) (by rw [add_mk]; exact hB'.cell 0) ?_)
    refine cl_of ok21 (wa_lits hwa) fun e W2 ⟨v2, L1, he, hT1, p2, c2, hv2, hO2, hf2, k2⟩ => ⟨p2, L1.length, c2, by rw [he, hv2], ?_⟩
    refine nn_of (ldP_of (x := some ⟨m, 0, none⟩) (by rw [add_mk]; exact (hB'.keep0 k2).cell 1) ?_)
    refine cl_of ok37 (lits37 (hdm.keep0 k2)) fun e W3 ⟨v3, L2, he, hT2, p3, c3, hv3, hO3, hf3, k3⟩ => ⟨p3, L2.length, c3, by rw [he, hv3], ?_⟩
    have hLL : L1 = L2 := hT1.uniq hT2 fun x _ => hrel.all x
    subst hLL
    have := hT1.len
    refine cl_of ok16 (same ((own_rdl hO2).keep0 k3) (own_rdl hO3) (by omega)) fun e W4 ⟨he, k4⟩ => ⟨_, he, ?_, hPPd ((k2.then0 k3).then0 k4)⟩
    simp
  refine pif_of (fun h6 => ?_) fun h6 => ?_
  · refine nn_of (ldP_of (x := some ⟨b, 0, none⟩) (by rw [add_mk]; exact hB'.cell 0) ?_)
    refine cl_of ok14 (wa_depth hwa) fun e W2 ⟨he, k2⟩ => ⟨_, he, ?_⟩
    refine nn_of (ldP_of (x := some ⟨b, 0, none⟩) (by rw [add_mk]; exact (hB'.keep0 k2).cell 0) ?_)
    refine cl_of ok22 (wa_clash (hwa.keep0 k2)) fun e W3 ⟨he, k3⟩ => ⟨_, he, ?_⟩
    have k13 := k2.then0 k3
    refine nn_of (ldP_of (x := some ⟨m, 0, none⟩) (by rw [add_mk]; exact (hB'.keep0 k13).cell 1) ?_)
    refine cl_of ok38 (depth38 (hdm.keep0 k13)) fun e W4 ⟨he, k4⟩ => ⟨_, he, ?_⟩
    have k14 := k13.then0 k4
    have hd : ((S.st.length : Nat) : Int) = (lvs.length : Int) - 1 := by have := hrel.len; omega
    rw [← hd]
    have ed : (((S.st.length : Nat) : Int) == ((S.st.length : Nat) : Int)) = true := by simp
    rw [ed]
    refine gd_t rfl (nn_of (gd_t rfl (ldP_of (x := some ⟨m, 0, none⟩) (by rw [add_mk]; exact (hB'.keep0 k14).cell 1) (gd_t rfl ?_))))
    refine cl_of ok39 (clash39 (hdm.keep0 k14)) fun e W5 ⟨he, k5⟩ => ⟨_, he, ?_, hPPd (k14.then0 k5)⟩
    cases S.clash <;> rfl
  exact ⟨rfl, hPPd (Keep.refl _ _)⟩
end Go.Proofs.Ytjpblaenebodlaa.Wt

/- WatchPlays: the law. -/
set_option linter.unusedVariables false
set_option linter.unusedSimpArgs false
set_option linter.unusedSectionVars false
set_option maxRecDepth 100000
namespace Go.Proofs.Ytjpblaenebodlaa.Wt
open Go Go.Proofs.Ytjpblaenebodlaa.Vc Go.Proofs.Ytjpblaenebodlaa.T
open Go.Proofs.Ytjpblaenebodlaa.Apart (RdL own_rdl wrap_nat getE own_len copy same take_snoc Sl sv New LL Gro)
open Go.Proofs.Ytjpblaenebodlaa.Lits (fl fl_iff idx idx_inj idx_range Ans ans_of indexP formedP tidyP Td Srt tidyR)

/-- what made answers -/
def Mad (w : World) (n : Nat) (p1 p2 : Option Addr) (w' : World) : Prop :=
  (p1 = none ∧ p2 = none ∧ Keep None w w') ∨ ∃ b m M1 M2 C lvs S, p1 = some ⟨b, 0, none⟩ ∧ p2 = some ⟨m, 0, none⟩ ∧ Pr n w' b m M1 M2 C lvs S ∧ (∀ i, M1 i ∨ M2 i → w.heap.size ≤ i) ∧ Keep None w w'
theorem made17 {w : World} {nv : Int} {p : Option Addr} {n c : Nat} {css : List (List Int)} (hC : Cl w p n c css) :
    Calls Try.prog 17 #[.agg #[I nv, .slice p n c]] w fun e w' => ∃ p1 p2, e = .returned (.tuple #[.agg #[.pointer p1, .pointer p2], .bool true]) ∧ Mad w n p1 p2 w' := by
  refine (V17_calls nv p n c w (fun v w' => ∃ p1 p2, v = .tuple #[.agg #[.pointer p1, .pointer p2], .bool true] ∧ Mad w n p1 p2 w') ?_).mono fun e w' ⟨v, he, p1, p2, hv, hk⟩ => ⟨p1, p2, by rw [he, hv], hk⟩
  unfold V17
  have hnc := hC.nc; have hcl := hC.cl
  have hcap : cap = 8796093022208 := rfl
  have hlo : ∀ es ∈ css, es.length ≤ 17592186044416 := fun es he => by have := (hC.ok es he).1; omega
  refine alc_at fun b2 w1 hb2 hB2 k1 => ?_
  refine alc_at fun b3 w2 hb3 hB3 k2 => ?_
  have k12 := k1.then0 k2
  have hB2' := hB2.keep0 k2
  refine ldI_of (x := nv) (by rw [add_mk]; exact hB2'.cell 0) ?_
  refine ldC_of (x := p) (n := n) (c := c) (by rw [add_mk]; exact hB2'.cell 1) ?_
  refine cl_of ok11 (copyF11 (hC.rdc.keep0 k12) (by omega) hlo) fun e w3 ⟨p', c', hs, he, hL, k3⟩ => ⟨nv, p', n, c', he, ?_⟩
  refine cl_of ok7 (wa_new (LLrdc (hL.mono (M' := fun i => i < w3.heap.size) fun i h _ => h)) (fun i h => h) (by omega) hlo) fun e w4 ⟨q1, v1, he, hN⟩ => ⟨q1, v1, he, ?_⟩
  have k34 : Keep None w2 w4 := by
    rcases hN with ⟨_, _, _, k4⟩ | ⟨_, _, _, _, _, _, _, _, k4, _⟩
    · exact k3.then0 k4
    · exact k3.then0 k4
  have k14 : Keep None w w4 := k12.then0 k34
  have hB24 := hB2'.keep0 k34
  refine ldI_of (x := nv) (by rw [add_mk]; exact hB24.cell 0) ?_
  refine ldC_of (x := p) (n := n) (c := c) (by rw [add_mk]; exact hB24.cell 1) ?_
  refine cl_of ok32 (new32 (hC.rdc.keep0 k14) (by omega) hlo) fun e w5 ⟨q2, v2, he, hD⟩ => ⟨q2, v2, he, ?_⟩
  have y1 := k1.size; have y2 := k2.size; have y34 := k34.size; have y3 := k3.size
  have l3 := hB3.lt
  have hB3' := hB3.keep0 k34
  rcases hN with ⟨rfl, rfl, hn, k4⟩ | ⟨b, M, S, rfl, rfl, hf, hA, hM, k4, n1, n2, n3, n4, n5⟩
  · rcases hD with ⟨rfl, rfl, _, k5⟩ | ⟨_, _, _, _, hf, _⟩
    rotate_left
    · exact absurd hf hn
    refine pif_f rfl ?_
    rw [add_mk, add_mk, Nat.zero_add, Nat.zero_add]
    have hB35 := hB3'.keep0 k5
    refine st_of hB35 (by simp) rfl fun w8 hB8 k8 _ => ?_
    refine st_of hB8 (by simp) rfl fun w9 hB9 k9 _ => ?_
    refine ldP_of (x := none) (hB9.cell 0) (ldP_of (x := none) (hB9.cell 1) ⟨none, none, rfl, Or.inl ⟨rfl, rfl, ?_⟩⟩)
    exact ((k14.then0 k5).trans k8 fun i hi h => by have h' : i = b3 := h; omega).trans k9 fun i hi h => by have h' : i = b3 := h; omega
  · rcases hD with ⟨_, _, hn, _⟩ | ⟨m, M2, rfl, rfl, _, hDm, hM2, k5⟩
    · exact absurd hf hn
    refine pif_f rfl ?_
    have y4 := k4.size; have y5 := k5.size
    rw [add_mk, add_mk, Nat.zero_add, Nat.zero_add]
    have hB35 := hB3'.keep0 k5
    refine st_of hB35 (by simp) rfl fun w8 hB8 k8 _ => ?_
    refine st_of hB8 (by simp) rfl fun w9 hB9 k9 _ => ?_
    refine ldP_of (x := some ⟨b, 0, none⟩) (hB9.cell 0) (ldP_of (x := some ⟨m, 0, none⟩) (hB9.cell 1) ⟨_, _, rfl, Or.inr ⟨b, m, M, M2, css, [[]], S, rfl, rfl, ?_, fun i hi => ?_, ?_⟩⟩)
    · have hPr : Pr n w5 b m M M2 css [[]] S := by
        refine ⟨hA.keep0 k5, ?_, fun i h1 h2 => by have := hA.lt i h1; have := hM2 i h2; omega, ⟨by rw [n3]; rfl, fun x => by rw [n2]; simp, fun d s hd => by rw [n3] at hd; simp at hd⟩, by rw [hC.len]; exact Nat.le_refl _⟩
        rw [n4, n5, n1]; exact hDm
      have no : ∀ {i : Nat}, i = b3 → ¬ M i ∧ ¬ M2 i := fun {i} e => ⟨fun h => by have := hM i h; omega, fun h => by have := hM2 i h; omega⟩
      exact (hPr.keep k8 fun i hi => no hi).keep k9 fun i hi => no hi
    · rcases hi with h | h
      · have := hM i h; omega
      · have := hM2 i h; omega
    · exact ((k14.then0 k5).trans k8 fun i hi h => by have h' : i = b3 := h; omega).trans k9 fun i hi h => by have h' : i = b3 := h; omega
/-- a pair that may be empty -/
def QP (M : Nat → Prop) (N : Nat) (W : World) (bp : Nat) : Prop := (Blk W bp [.pointer none, .pointer none] 46 ∧ ∀ i, ¬ M i) ∨ PP M N W bp
section
variable {M M' : Nat → Prop} {N N' : Nat} {W W' : World} {bp : Nat}
theorem QP.keep {U : Nat → Prop} (h : QP M N W bp) (hk : Keep U W W') (hU : ∀ i, U i → ¬ M i ∧ i ≠ bp) (hN : N ≤ N') : QP M N' W' bp := by
  rcases h with ⟨h1, h2⟩ | h
  · exact Or.inl ⟨h1.keep hk fun hh => (hU bp hh).2 rfl, h2⟩
  · exact Or.inr (h.keep hk hU hN)
theorem QP.lt (h : QP M N W bp) : bp < W.heap.size ∧ ∀ i, M i → i < W.heap.size := by
  rcases h with ⟨h1, h2⟩ | h
  · exact ⟨h1.lt, fun i hi => absurd hi (h2 i)⟩
  · refine ⟨?_, h.lt⟩
    obtain ⟨b, m, M1, M2, C, lvs, S, hB, _⟩ := h
    exact hB.lt
end
/-- the two pairs, in memory of the call's own -/
structure Dbl (w0 : World) (N : Nat) (W : World) (b2 b10 b20 : Nat) (A : List Value) (M M' : Nat → Prop) : Prop where
  a : Blk W b2 A 43
  p : QP M N W b10
  q : QP M' N W b20
  d : ∀ i, M i → ¬ M' i
  mp : ∀ i, M i → w0.heap.size ≤ i ∧ i ≠ b2 ∧ i ≠ b20
  mq : ∀ i, M' i → w0.heap.size ≤ i ∧ i ≠ b2 ∧ i ≠ b10
  ne : b10 ≠ b20
  k : Keep None w0 W
section
variable {w0 : World} {N N' : Nat} {W W' : World} {b2 b10 b20 : Nat} {A : List Value} {M M' : Nat → Prop}
theorem Dbl.keep0 (h : Dbl w0 N W b2 b10 b20 A M M') (hk : Keep None W W') (hN : N ≤ N') : Dbl w0 N' W' b2 b10 b20 A M M' :=
  ⟨h.a.keep0 hk, h.p.keep hk (fun _ h => h.elim) hN, h.q.keep hk (fun _ h => h.elim) hN, h.d, h.mp, h.mq, h.ne, h.k.then0 hk⟩
theorem Dbl.stp1 (h : Dbl w0 N W b2 b10 b20 A M M') (hs : Stp M W N' b10 W') (hN : N ≤ N') : ∃ M1, Dbl w0 N' W' b2 b10 b20 A M1 M' := by
  obtain ⟨M1, h1, h2, h3⟩ := hs
  have l1 := h.q.lt
  have l2 := h.a.lt
  have z := h.k.size
  refine ⟨M1, h.a.keep h3 fun hh => (h.mp b2 hh).2.1 rfl, Or.inr h1, h.q.keep h3 (fun i hi => ⟨h.d i hi, (h.mp i hi).2.2⟩) hN, fun i hi hh => ?_, fun i hi => ?_, h.mq, h.ne, h.k.trans h3 fun i hi hh => by have := (h.mp i hh).1; omega⟩
  · rcases h2 i hi with a | a
    · exact h.d i a hh
    · have := l1.2 i hh; omega
  · rcases h2 i hi with a | a
    · exact h.mp i a
    · exact ⟨by omega, by omega, by have := l1.1; omega⟩
theorem Dbl.stp2 (h : Dbl w0 N W b2 b10 b20 A M M') (hs : Stp M' W N' b20 W') (hN : N ≤ N') : ∃ M1, Dbl w0 N' W' b2 b10 b20 A M M1 := by
  obtain ⟨M1, h1, h2, h3⟩ := hs
  have l1 := h.p.lt
  have l2 := h.a.lt
  have z := h.k.size
  refine ⟨M1, h.a.keep h3 fun hh => (h.mq b2 hh).2.1 rfl, h.p.keep h3 (fun i hi => ⟨fun hh => h.d i hh hi, (h.mq i hi).2.2⟩) hN, Or.inr h1, fun i hh hi => ?_, h.mp, fun i hi => ?_, h.ne, h.k.trans h3 fun i hi hh => by have := (h.mq i hh).1; omega⟩
  · rcases h2 i hi with a | a
    · exact h.d i hh a
    · have := l1.2 i hh; omega
  · rcases h2 i hi with a | a
    · exact h.mq i a
    · exact ⟨by omega, by omega, by have := l1.1; omega⟩
end
theorem Ops.ixo {w W : World} {p : Option Addr} {n : Nat} {xs : List OpT} (h : Ops w p n xs) (hk : Keep None w W) {i : Nat} (hi : i < n) {K : Addr → Prop}
    (hK : ∀ a x q m c, xs[i]? = some x → W.cell? (a.add 0) = some (I x.kind) → W.cell? (a.add 1) = some (I x.which) → W.cell? (a.add 2) = some (I x.lit) → W.cell? (a.add 3) = some (.slice q m c) → m ≤ 17592186044416 → RdL W q m x.ls → (∀ j, ob q j → 0 < m → j < w.heap.size) → K a) : ixA p n (i : Int) 4 K := by
  obtain ⟨x, hx⟩ := getE (show i < xs.length by have := h.len; omega)
  obtain ⟨a, rfl, r0, r1, r2, r3, q, m, c, h0, h1, h2, h3, h4, h5, h6, h7, h8⟩ := h.cell i x hx
  have kc : ∀ {a : Addr} {v : Value}, w.cell? a = some v → W.cell? a = some v := fun h => hk.cell h fun h => h
  refine ⟨by omega, by omega, ?_⟩
  show K _
  rw [Int.toNat_natCast]
  exact hK _ x q m c hx (kc h0) (kc h1) (kc h2) (kc h3) (by omega) (h6.keep0 hk) h8
/-- out of made's answer: the pair that is laid down -/
theorem qp_of {w w1 w4 : World} {n N bp : Nat} {p1 p2 : Option Addr} (h : Mad w n p1 p2 w1) (hn : n ≤ N) (hB : Blk w4 bp [.pointer p1, .pointer p2] 46) (k : Keep (One bp) w1 w4) (hbp : w1.heap.size ≤ bp) :
    ∃ M, QP M N w4 bp ∧ (∀ i, M i → w.heap.size ≤ i ∧ i < w1.heap.size) ∧ Keep None w w1 := by
  rcases h with ⟨rfl, rfl, k1⟩ | ⟨b, m, M1, M2, C, lvs, S, rfl, rfl, hP, hM, k1⟩
  · exact ⟨fun _ => False, Or.inl ⟨hB, fun i h => h⟩, fun i h => h.elim, k1⟩
  · have lt : ∀ i, M1 i ∨ M2 i → i < w1.heap.size := fun i hi => by
      rcases hi with h | h
      · exact hP.wa.lt i h
      · exact hP.dm.lt i h
    have hP4 := hP.keep k fun i hi => by
      have hi' : i = bp := hi
      exact ⟨fun h => by have := lt i (Or.inl h); omega, fun h => by have := lt i (Or.inr h); omega⟩
    exact ⟨fun i => M1 i ∨ M2 i, Or.inr ⟨b, m, M1, M2, C, lvs, S, hB, ⟨hP4.wa, hP4.dm, hP4.dis, hP4.rel, Nat.le_trans hP4.cn hn⟩, fun i => Iff.rfl, fun h => by have := lt bp h; omega⟩, fun i hi => ⟨hM i hi, lt i hi⟩, k1⟩
theorem law5 {w : World} {nv : Int} {p : Option Addr} {n c : Nat} {css : List (List Int)} {nv' : Int} {p' : Option Addr} {n' c' : Nat} {css' : List (List Int)} {sp : Option Addr} {sn sc : Nat} {xs : List OpT} (hC : Cl w p n c css) (hC' : Cl w p' n' c' css') (hS : Ops w sp sn xs) :
    Calls Try.prog 5 #[.agg #[I nv, .slice p n c, I nv', .slice p' n' c', .slice sp sn sc]] w fun e w' => e = .returned (.bool true) ∧ RowKit.Below w.heap.size w w' := by
  refine (V5_calls nv p n c nv' p' n' c' sp sn sc w (fun v w' => v = .bool true ∧ Keep None w w') ?_).mono fun e w' ⟨v, he, hv, hk⟩ => ⟨by rw [he, hv], hk.below0⟩
  unfold V5
  have hcap : cap = 8796093022208 := rfl
  have hn1 : n ≤ 5864062014634 := by have := hC.nc; have := hC.cl; omega
  have hn2 : n' ≤ 5864062014634 := by have := hC'.nc; have := hC'.cl; omega
  have hsn := hS.nl
  have kc : ∀ {W : World}, Keep None w W → Cl W p' n' c' css' := fun {W} hk => ⟨hC'.nc, hC'.cl, hC'.len, hC'.ok, fun i es hi => by
    obtain ⟨a, q, m, c, h1, h2, h3, h4, h5, h6, h7⟩ := hC'.cell i es hi
    exact ⟨a, q, m, c, h1, hk.cell h2 fun h => h, h3, h4, h5.keep0 hk, Nat.lt_of_lt_of_le h6 hk.size, fun j hj h0 => Nat.lt_of_lt_of_le (h7 j hj h0) hk.size⟩⟩
  have kc1 : ∀ {W : World}, Keep None w W → Cl W p n c css := fun {W} hk => ⟨hC.nc, hC.cl, hC.len, hC.ok, fun i es hi => by
    obtain ⟨a, q, m, c, h1, h2, h3, h4, h5, h6, h7⟩ := hC.cell i es hi
    exact ⟨a, q, m, c, h1, hk.cell h2 fun h => h, h3, h4, h5.keep0 hk, Nat.lt_of_lt_of_le h6 hk.size, fun j hj h0 => Nat.lt_of_lt_of_le (h7 j hj h0) hk.size⟩⟩
  refine alc_at fun b2 w1 hb2 hB2 k1 => ?_
  refine ldI_of (x := nv) (by rw [add_mk, add_mk]; exact hB2.cell 0) ?_
  refine ldC_of (x := p) (n := n) (c := c) (by rw [add_mk, add_mk]; exact hB2.cell 1) ?_
  refine cl_of ok17 (made17 (nv := nv) (kc1 k1)) fun e w2 ⟨x6, x7, he, hm1⟩ => ⟨x6, x7, true, he, ?_⟩
  have k2 : Keep None w1 w2 := by
    rcases hm1 with ⟨_, _, k⟩ | ⟨_, _, _, _, _, _, _, _, _, _, _, k⟩ <;> exact k
  refine alc_at fun b10 w3 hb10 hB10 k3 => ?_
  rw [add_mk, add_mk, Nat.zero_add, Nat.zero_add]
  refine st_of hB10 (by simp) rfl fun w4 hB4 k4 y4 => ?_
  refine st_of hB4 (by simp) rfl fun w5 hB5 k5 y5 => ?_
  refine pif_f rfl ?_
  have y1 := k1.size; have y2 := k2.size; have y3 := k3.size
  have l2 := hB2.lt; have l10 := hB10.lt
  have k25 : Keep (One b10) w2 w5 := ((k3.none (S := One b10)).trans k4 fun _ _ h => h).trans k5 fun _ _ h => h
  obtain ⟨M, hQ, hMf, _⟩ := qp_of (N := max n n') hm1 (by omega) hB5 k25 (by omega)
  have k02 : Keep None w w2 := k1.then0 k2
  have k05 : Keep None w w5 := k02.trans k25 fun i hi h => by have h' : i = b10 := h; omega
  have hB25 := (hB2.keep0 k2).keep k25 fun h => by have h' : b2 = b10 := h; omega
  refine ldI_of (x := nv') (by rw [add_mk, add_mk]; exact hB25.cell 2) ?_
  refine ldC_of (x := p') (n := n') (c := c') (by rw [add_mk, add_mk]; exact hB25.cell 3) ?_
  refine cl_of ok17 (made17 (nv := nv') (kc k05)) fun e w6 ⟨x16, x17, he, hm2⟩ => ⟨x16, x17, true, he, ?_⟩
  have k6 : Keep None w5 w6 := by
    rcases hm2 with ⟨_, _, k⟩ | ⟨_, _, _, _, _, _, _, _, _, _, _, k⟩ <;> exact k
  refine alc_at fun b20 w7 hb20 hB20 k7 => ?_
  rw [add_mk, add_mk, Nat.zero_add, Nat.zero_add]
  refine st_of hB20 (by simp) rfl fun w8 hB8 k8 y8 => ?_
  refine st_of hB8 (by simp) rfl fun w9 hB9 k9 y9 => ?_
  refine pif_f rfl ?_
  have y6 := k6.size; have y7 := k7.size
  have k69 : Keep (One b20) w6 w9 := ((k7.none (S := One b20)).trans k8 fun _ _ h => h).trans k9 fun _ _ h => h
  obtain ⟨M', hQ', hMf', _⟩ := qp_of (N := max n n') hm2 (by omega) hB9 k69 (by omega)
  have hl5 : b10 < w5.heap.size := hB5.lt
  have k59 : Keep (One b20) w5 w9 := (k6.none (S := One b20)).trans k69 fun _ _ h => h
  have hD0 : Dbl w (max n n') w9 b2 b10 b20 [I nv, .slice p n c, I nv', .slice p' n' c', .slice sp sn sc] M M' := by
    refine ⟨hB25.keep k59 fun h => by have h' : b2 = b20 := h; omega, hQ.keep k59 (fun i hi => by
      have h' : i = b20 := hi
      exact ⟨fun h => by have := hMf i h; omega, by omega⟩) (Nat.le_refl _), hQ', fun i h1 h2 => by have := hMf i h1; have := hMf' i h2; omega, fun i hi => by have := hMf i hi; omega, fun i hi => by have := hMf' i hi; omega, by omega, k05.trans k59 fun i hi h => by have h' : i = b20 := h; omega⟩
  refine lp_of (fun s W => ∃ (i : Nat) (M M' : Nat → Prop), s.1 = i ∧ i ≤ sn ∧ Dbl w (max n n' + i) W b2 b10 b20 [I nv, .slice p n c, I nv', .slice p' n' c', .slice sp sn sc] M M') (fun s _ => (sn - s.1).toNat) ⟨0, M, M', rfl, Nat.zero_le _, hD0⟩ ?_
  rintro ⟨i', ⟨⟩⟩ W ⟨i, M, M', hi', hi, hD⟩
  dsimp only at hi' ⊢
  subst hi'
  refine ldC_of (x := sp) (n := sn) (c := sc) (by rw [add_mk]; exact hD.a.cell 4) ?_
  refine pif_of (fun hlt => ?_) fun hge => ?_
  · have hlt : i < sn := by simpa using hlt
    rw [wrap_nat i (by omega)]
    refine ⟨fun _ W' => ∃ M M' : Nat → Prop, Dbl w (max n n' + (i + 1)) W' b2 b10 b20 [I nv, .slice p n c, I nv', .slice p' n' c', .slice sp sn sc] M M', ?_, ?_⟩
    rotate_left
    · rintro ⟨⟩ W' ⟨M1, M1', hD1⟩
      exact ⟨⟨i + 1, M1, M1', rfl, hlt, hD1⟩, by omega⟩
    refine ⟨fun s W' => W' = W ∧ (s.1 = some ⟨b20, 0, none⟩ ∨ s.1 = some ⟨b10, 0, none⟩), ?_, ?_⟩
    · refine ldC_of (x := sp) (n := sn) (c := sc) (by rw [add_mk]; exact hD.a.cell 4) ?_
      refine hS.ix hD.k hlt fun a x hx hat => ?_
      obtain ⟨r0, r1, r2, r3, oq, om, oc, h0, h1, h2, h3, h4, h5, h6, h7, h8⟩ := hat
      refine ldI_of h1 (pif_of (fun hq => ⟨rfl, Or.inl rfl⟩) fun hq => ⟨rfl, Or.inr rfl⟩)
    · rintro ⟨v, ⟨⟩⟩ W' ⟨hW, hv⟩
      subst hW
      dsimp only at hv ⊢
      have go : ∀ {bp : Nat} {MM : Nat → Prop}, QP MM (max n n' + i) W' bp → (∀ j, MM j → w.heap.size ≤ j) → (∀ {W2 : World}, Stp MM W' (max n n' + (i + 1)) bp W2 → ∃ M M' : Nat → Prop, Dbl w (max n n' + (i + 1)) W2 b2 b10 b20 [I nv, .slice p n c, I nv', .slice p' n' c', .slice sp sn sc] M M') →
          nn (some (⟨bp, 0, none⟩ : Addr)) fun p41 => ldP W' (p41.add 0) fun x42 => pif (Option.isNone x42) (∃ M M' : Nat → Prop, Dbl w (max n n' + (i + 1)) W' b2 b10 b20 [I nv, .slice p n c, I nv', .slice p' n' c', .slice sp sn sc] M M') (
            ldC W' ((⟨b2, 0, none⟩ : Addr).add 4) fun x44 x44n x44c => ixA x44 x44n (i : Int) 4 fun p45 => ldI .i64 W' (p45.add 0) fun x46 => ldI .i64 W' (p45.add 1) fun x47 => ldI .i64 W' (p45.add 2) fun x48 => ldC W' (p45.add 3) fun x49 x49n x49c =>
            cl Try.prog 18 [.pointer (some (⟨bp, 0, none⟩ : Addr)), .agg #[.int .i64 x46, .int .i64 x47, .int .i64 x48, .slice x49 x49n x49c]] W' fun e51 w13 => ∃ x50 : Bool, e51 = Ending.returned (.bool x50) ∧
            pif (!x50) ((Value.bool false : Value) = .bool true ∧ Keep None w w13) (∃ M M' : Nat → Prop, Dbl w (max n n' + (i + 1)) w13 b2 b10 b20 [I nv, .slice p n c, I nv', .slice p' n' c', .slice sp sn sc] M M')) := fun {bp} {MM} hQ hMM hall => by
        rcases hQ with ⟨hB, _⟩ | hP
        · exact nn_of (ldP_of (x := none) (by rw [add_mk]; exact hB.cell 0) (pif_t rfl ⟨M, M', hD.keep0 (Keep.refl _ _) (by omega)⟩))
        · obtain ⟨b, m, M1, M2, C, lvs, S, hB, _⟩ := id hP
          refine nn_of (ldP_of (x := some ⟨b, 0, none⟩) (by rw [add_mk]; exact hB.cell 0) (pif_f rfl ?_))
          refine ldC_of (x := sp) (n := sn) (c := sc) (by rw [add_mk]; exact hD.a.cell 4) ?_
          refine hS.ixo hD.k hlt fun a x oq om oc hx h0 h1 h2 h3 h4 h5 h6 => ?_
          refine ldI_of h0 (ldI_of h1 (ldI_of h2 (ldC_of h3 ?_)))
          refine cl_of ok18 (plays18 hP (by omega) h5 h4 fun j hj h0 hh => by have := h6 j hj h0; have := hMM j hh; omega) fun e w13 ⟨he, hs⟩ => ⟨true, he, pif_f rfl (hall hs)⟩
      rcases hv with rfl | rfl
      · exact go hD.q (fun j hj => (hD.mq j hj).1) fun hs => by
          obtain ⟨M1, h⟩ := hD.stp2 hs (by omega)
          exact ⟨_, _, h⟩
      · exact go hD.p (fun j hj => (hD.mp j hj).1) fun hs => by
          obtain ⟨M1, h⟩ := hD.stp1 hs (by omega)
          exact ⟨_, _, h⟩
  · have hge : i = sn := by simp at hge; omega
    rcases hD.p with ⟨hB, _⟩ | hP
    · exact ldP_of (x := none) (hB.cell 0) (pif_t rfl ⟨rfl, hD.k⟩)
    · obtain ⟨b, m, M1, M2, C, lvs, S, hB, _⟩ := id hP
      refine ldP_of (x := some ⟨b, 0, none⟩) (hB.cell 0) (pif_f rfl ?_)
      have rn : ∀ {W : World}, RdL W none 0 [] := fun {W} => ⟨rfl, fun i x hx => by simp at hx⟩
      have kM : ∀ {M1 : Nat → Prop} {W1 W2 : World} {N1 : Nat}, (∀ j, M1 j → w.heap.size ≤ j) → Keep None w W1 → Stp M1 W1 N1 b10 W2 → Keep None w W2 ∧ ∃ M2, PP M2 N1 W2 b10 ∧ ∀ j, M2 j → w.heap.size ≤ j := fun {M1} {W1} {W2} {N1} h1 h2 ⟨M2, h3, h4, h5⟩ => by
        have := h2.size
        refine ⟨h2.trans h5 fun j hj hh => by have := h1 j hh; omega, M2, h3, fun j hj => ?_⟩
        rcases h4 j hj with h | h
        · exact h1 j h
        · omega
      refine cl_of ok18 (plays18 hP (by omega) rn (by decide) fun j ⟨a, h, _⟩ => by cases h) fun e w14 ⟨he, hs⟩ => ⟨true, he, ?_⟩
      obtain ⟨k14, M2, hP2, hM2⟩ := kM (fun j hj => (hD.mp j hj).1) hD.k hs
      refine gd_t rfl (cl_of ok18 (plays18 hP2 (by omega) rn (by decide) fun j ⟨a, h, _⟩ => by cases h) fun e w15 ⟨he, hs⟩ => ⟨true, he, ?_⟩)
      obtain ⟨k15, M3, hP3, hM3⟩ := kM hM2 k14 hs
      refine gd_t rfl (cl_of ok18 (plays18 hP3 (by omega) rn (by decide) fun j ⟨a, h, _⟩ => by cases h) fun e w16 ⟨he, hs⟩ => ⟨true, he, ?_⟩)
      obtain ⟨k16, M4, hP4, hM4⟩ := kM hM3 k15 hs
      exact ⟨rfl, k16⟩
end Go.Proofs.Ytjpblaenebodlaa.Wt
