/- The program's trail by its row: each method answers what the row says. -/
import Derived.Test.YtioaaeianjgaoaaRef5
set_option linter.unusedVariables false
set_option linter.unusedSimpArgs false
set_option maxRecDepth 100000
namespace Go.Proofs.Ytioaaeianjgaoaa.Trail
open Go Go.Proofs.Ytioaaeianjgaoaa.Vc Go.Proofs.Ytioaaeianjgaoaa.T

def Tr (n : Nat) (w : World) (T : TI) (R : List E) (L : List Int) : Prop := ∃ vals tolds, TRep w T (lits R) L vals tolds ∧ St n R L ∧ VR n R vals tolds
section
variable {n : Nat} {w : World} {T : TI} {R : List E} {L : List Int}
theorem Tr.small (h : Tr n w T R L) : n ≤ 1048576 ∧ R.length ≤ n ∧ L.length ≤ n := by
  obtain ⟨vals, tolds, h1, h2, h3⟩ := h
  have := h1.small
  rw [h3.len] at this
  exact ⟨this, h2.len, Nat.le_trans h2.levs h2.len⟩
theorem Tr.st (h : Tr n w T R L) : St n R L := by obtain ⟨_, _, _, h2, _⟩ := h; exact h2
theorem Tr.keep {w' : World} {K : Nat → Prop} (h : Tr n w T R L) (hk : Keep K w w') (hn : ∀ i, T.F i → ¬ K i) : Tr n w' T R L := by
  obtain ⟨vals, tolds, h1, h2⟩ := h
  exact ⟨vals, tolds, h1.keep hk hn, h2⟩
theorem Tr.keep0 {w' : World} (h : Tr n w T R L) (hk : Keep None w w') : Tr n w' T R L := h.keep hk fun _ _ h => h
theorem Tr.drew (h : Tr n w T R L) : Tr n w.drew T R L := by
  obtain ⟨vals, tolds, h1, h2⟩ := h
  exact ⟨vals, tolds, h1.drew, h2⟩
theorem Tr.lt (h : Tr n w T R L) : ∀ i, T.F i → i < w.heap.size := by
  obtain ⟨vals, tolds, h1, h2⟩ := h
  exact h1.lt
theorem lits_len (R : List E) : (lits R).length = R.length := by simp [lits]
theorem sg_ent (R : List E) (v : Nat) : sg R v = match ent R v with | some e => sgn e.lit | none => 0 := rfl
theorem ent_some {R : List E} {v : Nat} {e : E} (h : ent R v = some e) : e.lit.natAbs = v ∧ e ∈ R := by
  unfold ent at h
  exact ⟨by simpa using List.find?_some h, List.mem_of_find?_eq_some h⟩
theorem VR.valB {vals : List Int} {tolds : List (Int × Int)} (h : VR n R vals tolds) (l : Int) : Trail.valB vals l = valA n R l := by
  unfold Trail.valB valA
  rw [h.len]
  rcases Bool.eq_false_or_eq_true (ownB n l) with hb | hb
  · rw [hb, if_pos rfl, if_pos rfl]
    have hlt := own_lt hb
    rw [h.val _ hlt.1 hlt.2, sg_ent]
    cases he : ent R l.natAbs with
    | none =>
      simp only []
      split
      · rfl
      · rfl
    | some e =>
      have he' := ent_some he
      simp only [sgn]
      by_cases h1 : l < 0
      · rw [if_pos h1]
        by_cases h2 : e.lit < 0
        · rw [if_pos h2, if_pos (by omega)]; rfl
        · rw [if_neg h2, if_neg (by omega)]; rfl
      · rw [if_neg h1]
        by_cases h2 : e.lit < 0
        · rw [if_pos h2, if_neg (by omega)]
        · rw [if_neg h2, if_pos (by omega)]
  · rw [hb, if_neg (by simp), if_neg (by simp)]
theorem VR.known {vals : List Int} {tolds : List (Int × Int)} (h : VR n R vals tolds) (v : Int) :
    knownB vals tolds v = if decide (1 ≤ v) && ownB n v then (ent R v.natAbs).map (fun e => (e.lv, e.rs)) else none := by
  unfold knownB
  rw [h.len, Bool.and_comm (ownB n v)]
  rcases Bool.eq_false_or_eq_true (decide (1 ≤ v) && ownB n v) with hb | hb
  · rw [hb, if_pos rfl, Bool.true_and]
    rw [Bool.and_eq_true] at hb
    have hlt := own_lt hb.2
    rw [h.val _ hlt.1 hlt.2, sg_ent]
    cases he : ent R v.natAbs with
    | none => simp
    | some e =>
      have he' := ent_some he
      have : sgn e.lit ≠ 0 := by unfold sgn; split <;> decide
      have t := h.told e he'.2
      rw [he'.1] at t
      simp only [Option.map_some]
      rw [if_pos (by simpa using this), t]
  · rw [hb, Bool.false_and, if_neg (by simp), if_neg (by simp)]
theorem VR.free {vals : List Int} {tolds : List (Int × Int)} (h : VR n R vals tolds) (l : Int) : freeB vals l = freeA n R l := by
  unfold freeB freeA
  rw [h.len]
  rcases Bool.eq_false_or_eq_true (ownB n l) with hb | hb
  · rw [hb, if_pos rfl, if_pos rfl]
    have hlt := own_lt hb
    rw [h.val _ hlt.1 hlt.2, sg_ent]
    cases he : ent R l.natAbs with
    | none => rfl
    | some e =>
      have : sgn e.lit ≠ 0 := by unfold sgn; split <;> decide
      simp only []
      rw [if_neg this]
  · rw [hb, if_neg (by simp), if_neg (by simp)]
theorem freeA_open {l : Int} (h : freeA n R l = 0) : ownB n l = true ∧ Open R l := by
  unfold freeA at h
  split at h
  · rename_i hb
    cases he : ent R l.natAbs with
    | none => exact ⟨hb, ent_none.1 he⟩
    | some e => rw [he] at h; cases h
  · cases h

theorem Tr.value (h : Tr n w T R L) (l : Int) (hl : -9223372036854775808 ≤ l) :
    Calls Try.prog 14 #[Pt T.t, I l] w fun e w' => e = .returned (I8 (valA n R l)) ∧ Keep None w w' := by
  obtain ⟨vals, tolds, h1, h2, h3⟩ := h
  exact (value14 h1 l hl).mono fun e w' ⟨he, hk, _⟩ => ⟨by rw [he, h3.valB], hk⟩
theorem Tr.levelOf (h : Tr n w T R L) (l : Int) (hl : -9223372036854775808 ≤ l) :
    Calls Try.prog 15 #[Pt T.t, I l] w fun e w' => e = .returned (I (levA n R l)) ∧ Keep None w w' := by
  obtain ⟨vals, tolds, h1, h2, h3⟩ := h
  refine (levelOf15 h1 l hl).mono fun e w' ⟨he, hk, _⟩ => ⟨?_, hk⟩
  rw [he]
  unfold levelB levA
  rw [h3.known]
  split
  · rename_i x hx
    split at hx
    · rename_i hc
      rw [if_pos hc]
      cases hq : ent R l.natAbs with
      | none => rw [hq] at hx; cases hx
      | some e => rw [hq] at hx; injection hx with hx; rw [← hx]
    · cases hx
  · rename_i hx
    split at hx
    · rename_i hc
      rw [if_pos hc]
      cases hq : ent R l.natAbs with
      | none => rfl
      | some e => rw [hq] at hx; cases hx
    · rename_i hc
      rw [if_neg hc]
theorem Tr.reason (h : Tr n w T R L) (l : Int) (hl : -9223372036854775808 ≤ l) :
    Calls Try.prog 16 #[Pt T.t, I l] w fun e w' => e = .returned (I (reaA n R l)) ∧ Keep None w w' := by
  obtain ⟨vals, tolds, h1, h2, h3⟩ := h
  refine (reason16 h1 l hl).mono fun e w' ⟨he, hk, _⟩ => ⟨?_, hk⟩
  rw [he]
  unfold reasonB reaA
  rw [h3.known]
  split
  · rename_i x hx
    split at hx
    · rename_i hc
      rw [if_pos hc]
      cases hq : ent R l.natAbs with
      | none => rw [hq] at hx; cases hx
      | some e => rw [hq] at hx; injection hx with hx; rw [← hx]
    · cases hx
  · rename_i hx
    split at hx
    · rename_i hc
      rw [if_pos hc]
      cases hq : ent R l.natAbs with
      | none => rfl
      | some e => rw [hq] at hx; cases hx
    · rename_i hc
      rw [if_neg hc]
theorem Tr.level (h : Tr n w T R L) : Calls Try.prog 13 #[Pt T.t] w fun e w' => e = .returned (I L.length) ∧ w' = w := by
  obtain ⟨vals, tolds, h1, h2, h3⟩ := h
  exact level13 h1
theorem Tr.lits (h : Tr n w T R L) : Calls Try.prog 10 #[Pt T.t] w fun e w' => ∃ v, e = .returned v ∧ Fresh w w' v (Trail.lits R) ∧ Keep None w w' := by
  have hs := h.small
  obtain ⟨vals, tolds, h1, h2, h3⟩ := h
  exact (lits10 h1 (by rw [lits_len]; omega)).mono fun e w' ⟨v, he, hf, hk, _⟩ => ⟨v, he, hf, hk⟩
theorem Tr.marks (h : Tr n w T R L) : Calls Try.prog 11 #[Pt T.t] w fun e w' => ∃ v, e = .returned v ∧ Fresh w w' v L ∧ Keep None w w' := by
  have hs := h.small
  obtain ⟨vals, tolds, h1, h2, h3⟩ := h
  exact (marks11 h1 (by omega)).mono fun e w' ⟨v, he, hf, hk, _⟩ => ⟨v, he, hf, hk⟩
theorem Tr.look (h : Tr n w T R L) {p : Option Addr} {nc c : Nat} {cs : List Int} (hc : SlL w p nc cs) :
    Calls Try.prog 24 #[Pt T.t, .slice p nc c] w fun e w' => ∃ v, e = .returned v ∧ MLookR w (lookA n R cs) v w' := by
  obtain ⟨vals, tolds, h1, h2, h3⟩ := h
  refine (look24 h1 hc).mono fun e w' ⟨v, he, hv, hk, _⟩ => ⟨v, he, ?_, hk⟩
  rw [hv]
  have : lookB vals cs = lookA n R cs := by
    unfold lookB lookA
    rw [h3.len]
    split
    · rw [lookGo_F, ← lookF_M]
      exact lookF_congr _ _ _ fun l _ => h3.valB l
    · rfl
  rw [this]
/-- what becomes of a trail -/
def TLaid (w : World) (T : TI) (n : Nat) (R : List E) (L : List Int) (w' : World) : Prop := Keep T.F w w' ∧ ∃ T', Moved w T T' ∧ Tr n w' T' R L
theorem Tr.decide (h : Tr n w T R L) (l : Int) (hl : -9223372036854775808 ≤ l) :
    Calls Try.prog 18 #[Pt T.t, I l] w fun e w' => e = .returned (I (freeA n R l)) ∧ TLaid w T n (if freeA n R l = 0 then R ++ [⟨l, (L.length + 1 : Nat), -1⟩] else R) (if freeA n R l = 0 then L ++ [(R.length : Int)] else L) w' := by
  have hs := h.small
  obtain ⟨vals, tolds, h1, h2, h3⟩ := h
  have hfr := h3.free l
  refine (decide18 h1 l hl (by rw [lits_len]; omega) (by omega) (fun hz => ?_)).mono fun e w' hh => ?_
  · rw [hfr] at hz
    have := freeA_open hz
    have := h2.room this.1 this.2
    rw [lits_len]; omega
  · rw [hfr] at hh
    rcases hh with ⟨a, b, k, T', m, hT⟩ | ⟨a, b, k, T', m, hT⟩
    · exact ⟨b, k, T', m, by rw [if_neg a, if_neg a]; exact ⟨vals, tolds, hT, h2, h3⟩⟩
    · refine ⟨by rw [a]; exact b, k, T', m, ?_⟩
      rw [if_pos a, if_pos a]
      have ho := freeA_open a
      refine ⟨_, _, ?_, h2.decide ho.1 ho.2, h3.snoc (x := ⟨l, (L.length + 1 : Nat), -1⟩) h2.own ho.1 ho.2⟩
      rw [lits_len] at hT
      have : Trail.lits (R ++ [⟨l, (L.length + 1 : Nat), -1⟩]) = Trail.lits R ++ [l] := by simp [Trail.lits]
      rw [this]
      exact hT
theorem Tr.imply (h : Tr n w T R L) (l r : Int) (hl : -9223372036854775808 ≤ l) :
    Calls Try.prog 26 #[Pt T.t, I l, I r] w fun e w' => e = .returned (I (implA n R l r)) ∧ TLaid w T n (if implA n R l r = 0 then R ++ [⟨l, L.length, r⟩] else R) L w' := by
  have hs := h.small
  obtain ⟨vals, tolds, h1, h2, h3⟩ := h
  have hfr := h3.free l
  refine (imply26 h1 l r hl (by rw [lits_len]; omega) (fun hz => ?_)).mono fun e w' hh => ?_
  · rw [hfr] at hz
    have := freeA_open hz
    have := h2.room this.1 this.2
    rw [lits_len]; omega
  · rw [hfr] at hh
    rcases hh with ⟨a, b, k, T', m, hT⟩ | ⟨a, a2, b, k, T', m, hT⟩ | ⟨a, a2, b, k, T', m, hT⟩
    · have e1 : implA n R l r = freeA n R l := by unfold implA; rw [if_neg a]
      exact ⟨by rw [e1]; exact b, k, T', m, by rw [e1, if_neg a]; exact ⟨vals, tolds, hT, h2, h3⟩⟩
    · have e1 : implA n R l r = 2 := by unfold implA; rw [if_pos a, if_pos a2]
      exact ⟨by rw [e1]; exact b, k, T', m, by rw [e1, if_neg (by decide)]; exact ⟨vals, tolds, hT, h2, h3⟩⟩
    · have e1 : implA n R l r = 0 := by unfold implA; rw [if_pos a, if_neg (by omega)]
      refine ⟨by rw [e1]; exact b, k, T', m, ?_⟩
      rw [e1, if_pos rfl]
      have ho := freeA_open a
      refine ⟨_, _, ?_, h2.imply ho.1 ho.2 a2, h3.snoc (x := ⟨l, L.length, r⟩) h2.own ho.1 ho.2⟩
      have : Trail.lits (R ++ [⟨l, L.length, r⟩]) = Trail.lits R ++ [l] := by simp [Trail.lits]
      rw [this]
      exact hT
theorem above_drop {k : Int} {fr : Nat} (h1 : ∀ e ∈ R.take fr, e.lv ≤ k) (h2 : ∀ e ∈ R.drop fr, k < e.lv) : above k R = R.drop fr ∧ upto k R = R.take fr := by
  unfold above upto
  constructor
  · conv => lhs; rw [← List.take_append_drop fr R]
    rw [List.filter_append]
    have e1 : (R.take fr).filter (fun e => decide (k < e.lv)) = [] := by
      rw [List.filter_eq_nil_iff]; intro e he; have := h1 e he; simp; omega
    have e2 : (R.drop fr).filter (fun e => decide (k < e.lv)) = R.drop fr := by
      rw [List.filter_eq_self]; intro e he; have := h2 e he; simpa using this
    rw [e1, e2, List.nil_append]
  · conv => lhs; rw [← List.take_append_drop fr R]
    rw [List.filter_append]
    have e1 : (R.take fr).filter (fun e => decide (e.lv ≤ k)) = R.take fr := by
      rw [List.filter_eq_self]; intro e he; have := h1 e he; simpa using this
    have e2 : (R.drop fr).filter (fun e => decide (e.lv ≤ k)) = [] := by
      rw [List.filter_eq_nil_iff]; intro e he; have := h2 e he; simp; omega
    rw [e1, e2, List.append_nil]
theorem above_top (h : St n R L) {k : Int} (hk : (L.length : Int) ≤ k) : above k R = [] ∧ upto k R = R := by
  have := above_drop (R := R) (fr := R.length) (k := k) (fun e he => by
    rw [List.take_length] at he; have := (h.lvl e he).2; omega) (fun e he => by rw [List.drop_length] at he; cases he)
  rwa [List.drop_length, List.take_length] at this
/-- Back's answer by the row -/
theorem Tr.back (h : Tr n w T R L) {k : Int} (hk0 : 0 ≤ k) (hk : k ≤ L.length) :
    Calls Try.prog 12 #[Pt T.t, I k] w fun e w' => ∃ p c, e = .returned (.tuple #[.slice p (above k R).length c, I 0]) ∧ Own w' 3 1 p (above k R).length c ((Trail.lits (above k R)).reverse.map I) ∧ (∀ i, ob p i → w.heap.size ≤ i) ∧
      Keep T.F w w' ∧ Tr n w' T (upto k R) (L.take k.toNat) := by
  have hs := h.small
  obtain ⟨vals, tolds, h1, h2, h3⟩ := h
  obtain ⟨m, rfl⟩ : ∃ m : Nat, k = m := ⟨k.toNat, by omega⟩
  rw [Int.toNat_natCast]
  by_cases hm : m < L.length
  · obtain ⟨fr, e1, e2, s1, s2, s3⟩ := h2.back m _ (List.getElem?_eq_getElem hm)
    obtain ⟨a1, a2⟩ := above_drop s2 s3
    refine (back12 h1 hm (by rw [lits_len]; omega) (by omega) (fr := fr) (by rw [List.getElem?_eq_getElem hm, e1]) (by rw [lits_len]; exact e2) (fun l hl => ?_) (fun l hl => ?_)).mono fun e w' ⟨v, he, p, c, hv, hO, hf, hk', hT⟩ => ⟨p, c, ?_, ?_, hf, hk', ?_⟩
    · obtain ⟨x, hx, rfl⟩ := List.mem_map.1 hl
      rw [h3.len]; exact h2.own x hx
    · obtain ⟨x, hx, rfl⟩ := List.mem_map.1 hl
      have := own_lt (h2.own x hx)
      omega
    · have : ((Trail.lits R).drop fr).reverse.length = (above (m : Int) R).length := by rw [a1, List.length_reverse, List.length_drop, List.length_drop, lits_len]
      rw [he, hv, this]
    · have : ((Trail.lits R).drop fr).reverse.length = (above (m : Int) R).length := by rw [a1, List.length_reverse, List.length_drop, List.length_drop, lits_len]
      rw [this] at hO
      have e3 : (Trail.lits R).drop fr = Trail.lits (above (m : Int) R) := by rw [a1]; unfold Trail.lits; rw [List.map_drop]
      rw [e3] at hO
      exact hO
    · rw [a2]
      refine ⟨_, _, ?_, s1, h3.back h2⟩
      have e3 : (Trail.lits R).take fr = Trail.lits (R.take fr) := by unfold Trail.lits; rw [List.map_take]
      rw [e3] at hT
      exact hT
  · obtain rfl : m = L.length := by omega
    obtain ⟨a1, a2⟩ := above_top h2 (Int.le_refl _)
    refine (back_same h1 (by omega)).mono fun e w' ⟨he, hw⟩ => ⟨none, 0, ?_, ?_, (fun i ⟨a, hh, _⟩ => by cases hh), by rw [hw]; exact Keep.refl _ _, ?_⟩
    · rw [a1]; exact he
    · rw [a1]; exact Own.nil _ _ _
    · rw [a2, List.take_length, hw]; exact ⟨vals, tolds, h1, h2, h3⟩
theorem Tr.back_out (h : Tr n w T R L) {k : Int} (hk : k < 0 ∨ (L.length : Int) < k) :
    Calls Try.prog 12 #[Pt T.t, I k] w fun e w' => e = .returned (.tuple #[.slice none 0 0, I 2]) ∧ w' = w := by
  obtain ⟨vals, tolds, h1, h2, h3⟩ := h
  exact Trail.back_out h1 hk
end
end Go.Proofs.Ytioaaeianjgaoaa.Trail
